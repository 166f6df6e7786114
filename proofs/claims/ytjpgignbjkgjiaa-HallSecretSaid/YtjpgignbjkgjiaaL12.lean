import Derived.Test.YtjpgignbjkgjiaaS12
import Derived.Test.YtjpgignbjkgjiaaB8
import Derived.Test.YtjpgignbjkgjiaaR10
import Derived.Test.YtjpgignbjkgjiaaA22
import Derived.Deep.RegionHeld3
import Derived.Deep.DrawnRows
set_option linter.unusedVariables false
set_option linter.unusedSimpArgs false
namespace Go.Proofs.Ytjpgignbjkgjiaa
open Go.RowKit
attribute [local go_sem ↓] Go.wp_at_zero Go.wp_at_succ
set_option maxRecDepth 100000 in
set_option maxHeartbeats 80000000 in
theorem secret_any (ha : Hal) (x : HP) (l : List Camp) (la : Option Addr) (lc : Nat) (p : List Int) (pa : Option Addr) (pn pc : Nat) (cu : Int) (ch : List Int) (ga : Option Addr) (gn gc : Nat) (w : World) (hh : HallAt w ha x) (hl : Camps w la l) (hp : Ints w pa p) (hpn : p.length = pn)
    (hb : Byts w ga ch) (hbn : ch.length = gn) (hgn : gn ≤ 9223372036854775807) (hch : ∀ j, j < ch.length → 0 ≤ nth ch j ∧ nth ch j ≤ 255) :
    Calls Try.prog 4 #[hval ha x, .slice la l.length lc, .agg #[.slice pa pn pc, .int .i64 cu, .slice ga gn gc]] w (Ret (.bool true) w) := by
  have hown := fun W (h : Ext w W) q1 q2 => own_any ha x W (hh.ext h) q1 q2
  have hcop := fun W (h : Ext w W) q => copied_any la l.length lc l W (hl.ext h) rfl q
  have hint := fun W (h : Ext w W) q => ints_any pa pn pc p W (hp.ext h) hpn q
  have hpick := fun W (h : Ext w W) i hi => pick_any ch ga gn gc i W (hb.ext h) hbn hi hgn
  have HOW := Lib.hid hown; have HCP := Lib.hid hcop; have HIN := Lib.hid hint; have HPI := Lib.hid hpick
  have HPN := Lib.hid hpn; have HL := Lib.hid hl; have HP' := Lib.hid hp
  have HCH : Hid (∀ i, 0 ≤ pickS ch i ∧ pickS ch i ≤ 255) := fun i => pickS_bd hch i
  clear hown hcop hint hpick hh hl hp hpn hb hbn hgn hch
  obtain ⟨sa, sc, ea, ec⟩ := x
  have hsplit : (decide ((30 : Int) < (ha.st.length : Int)) = true) ∨
      (decide ((30 : Int) < (ha.st.length : Int)) = false ∧ decide ((15 : Int) < (l.length : Int)) = true) ∨
      (decide ((30 : Int) < (ha.st.length : Int)) = false ∧ decide ((15 : Int) < (l.length : Int)) = false ∧ decide ((15 : Int) < (pn : Int)) = true) ∨
      (decide ((30 : Int) < (ha.st.length : Int)) = false ∧ decide ((15 : Int) < (l.length : Int)) = false ∧ decide ((15 : Int) < (pn : Int)) = false ∧ decide ((200 : Int) < (ha.en.length : Int)) = true) ∨
      (decide ((30 : Int) < (ha.st.length : Int)) = false ∧ decide ((15 : Int) < (l.length : Int)) = false ∧ decide ((15 : Int) < (pn : Int)) = false ∧ decide ((200 : Int) < (ha.en.length : Int)) = false) := by
    cases decide ((30 : Int) < (ha.st.length : Int)) <;> cases decide ((15 : Int) < (l.length : Int)) <;> cases decide ((15 : Int) < (pn : Int)) <;> cases decide ((200 : Int) < (ha.en.length : Int)) <;> simp
  rcases hsplit with T1 | ⟨T1, T2⟩ | ⟨T1, T2, T3⟩ | ⟨T1, T2, T3, T4⟩ | ⟨T1, T2, T3, T4⟩
  iterate 4
    · clear HOW HCP HIN HPI HL HP'
      go_enter Try.func4, Try.ntmps4
      go_wp2_with (fail)
      generalize hw1 : World.alloc _ _ = w1
      obtain ⟨he, o1, o2, -⟩ := alloc2 hw1
      obtain ⟨b0, b1, b2, b3⟩ := obj_cells4 o1
      obtain ⟨a0, a1, a2⟩ := obj_cells3 o2
      clear hw1 o1 o2
      have hr := Ext.refl w1
      go_wp2_with (fail)
      (with_reducible refine (known_any _).mono ?_); rintro e w3 ⟨rfl, he3⟩
      go_wp2_with (fail)
      go_ret
      exact ⟨rfl, he.trans he3⟩
  · have hn30 : ha.st.length ≤ 30 := by simp at T1; omega
    have hl15 : l.length ≤ 15 := by simp at T2; omega
    have hp15 : pn ≤ 15 := by simp at T3; omega
    have hen200 : ha.en.length ≤ 200 := by simp at T4; omega
    go_enter Try.func4, Try.ntmps4
    go_wp2_with (fail)
    generalize hw1 : World.alloc _ _ = w1
    obtain ⟨he, o1, o2, -⟩ := alloc2 hw1
    obtain ⟨b0, b1, b2, b3⟩ := obj_cells4 o1
    obtain ⟨a0, a1, a2⟩ := obj_cells3 o2
    clear hw1 o1 o2
    have hr := Ext.refl w1
    go_upto_region 3 with fail
    go_region_held3 (fun W => Ext w1 W) (first | with_reducible assumption | exact Ext.drew (by with_reducible assumption))
      (first
      | (go_at_call 15; (with_reducible refine (HOW.out _ (he.trans (by with_reducible assumption)) (by omega) (by omega)).mono ?_); rintro e w3 ⟨g6, c6, g10, c10, rfl, he3, -, -, -, ho6, ho10⟩; have hx3 := Ext.trans (show Ext w1 _ by with_reducible assumption) he3; have HO6 := Lib.hid ho6; have HO10 := Lib.hid ho10; clear ho6 ho10)
      | (go_at_call 16; (with_reducible refine (HCP.out _ (he.trans (by with_reducible assumption)) (by omega)).mono ?_); rintro e w4 ⟨ca, cc, rfl, he4, ho4⟩; have hx4 := Ext.trans (show Ext w1 _ by with_reducible assumption) he4; have HO4 := Lib.hid ho4; clear ho4)
      | (go_at_call 17; (with_reducible refine (HIN.out _ (he.trans (by with_reducible assumption)) (by rw [HPN.out]; omega)).mono ?_); rintro e w5 ⟨ia, ic, rfl, he5, ho5⟩; have hx5 := Ext.trans (show Ext w1 _ by with_reducible assumption) he5; have HO5 := Lib.hid ho5; clear ho5)
      | (go_at_call 14; (with_reducible refine (View_any ha ⟨some ⟨g6, 0, none⟩, c6, some ⟨g10, 0, none⟩, c10⟩ l ca cc p ia p.length ic cu w5 ⟨HO6.out.ints.1.ext (he4.trans he5), HO10.out.ints.1.ext (he4.trans he5)⟩ (HO4.out.camps.1.ext he5) HO5.out.ints.1 rfl).mono ?_); rintro e w6 ⟨va, vc, rfl, he6, hby⟩; have hx6 := Ext.trans (show Ext w1 _ by with_reducible assumption) he6; have HBY := Lib.hid hby; clear hby)
      | fail)
    clear HO6 HO10 HO4 HO5 he3 he4 he5 he6 hx3 hx4 hx5 hr
    replace b0 := fun W (h : Ext w6 W) => b0 W (hx6.trans h)
    replace b1 := fun W (h : Ext w6 W) => b1 W (hx6.trans h)
    replace b2 := fun W (h : Ext w6 W) => b2 W (hx6.trans h)
    replace b3 := fun W (h : Ext w6 W) => b3 W (hx6.trans h)
    replace a0 := fun W (h : Ext w6 W) => a0 W (hx6.trans h)
    replace a1 := fun W (h : Ext w6 W) => a1 W (hx6.trans h)
    replace a2 := fun W (h : Ext w6 W) => a2 W (hx6.trans h)
    have hw6 := he.trans hx6
    clear hx6 he
    have hr6 := Ext.refl w6
    by_cases hE : viewE ha l p cu = 0
    rotate_left
    · have hvL : (viewL ha l p cu).length = 0 := by rw [viewL, if_neg hE]; rfl
      obtain ⟨ev, hev⟩ : ∃ v, v = viewE ha l p cu := ⟨_, rfl⟩
      rw [hvL, ← hev]
      have T5 : (ev != 0) = true := by rw [hev]; simpa using hE
      clear hvL hE hev HBY HOW HCP HIN HPI HL HP'
      go_wp2_with (fail)
      (with_reducible refine (known_any _).mono ?_); rintro e w7 ⟨rfl, he7⟩
      go_wp2_with (fail)
      go_ret
      exact ⟨rfl, hw6.trans he7⟩
    · have hcu : wi cu 0 20 = true := by
        cases h : wi cu 0 20 with
        | true => rfl
        | false =>
          rw [viewE, h] at hE
          split at hE
          · cases hE
          · contradiction
      have hS : errS ha l p = 0 := by
        by_cases h : errS ha l p = 0
        · exact h
        · rw [viewE, if_neg h] at hE; exact absurd hE h
      have hvL : viewL ha l p cu = fl ha.st.length (viewF ha l p cu) := by rw [viewL, if_pos hE]
      obtain ⟨hv, hpl, hbr⟩ := errS_zero hS
      obtain rfl : pn = l.length := by rw [← HPN.out]; exact hpl
      rw [hvL] at HBY
      rw [hE, hvL, fl_len]
      have HV := Lib.hid hv; have HBR := Lib.hid hbr; have HCU := Lib.hid hcu
      have hcu2 := wi_iff.1 hcu
      obtain ⟨hcu0, hcu1⟩ := hcu2
      clear hE hcu hS hvL hv hpl hbr
      go_upto_region 8 with fail
      obtain ⟨B, hB⟩ : ∃ B, B = w6.heap.size := ⟨_, rfl⟩
      refine wp_region_said3 (fun i v w => match i with
        | 0 => v = .slice la l.length lc
        | 1 => ∃ a c, v = .slice a l.length c ∧ OwnC w B (.slice a l.length c) l
        | 2 => v = hval ha ⟨sa, sc, ea, ec⟩
        | 3 => ∃ g6 c6 g10 c10 : Nat, v = hval ha ⟨some ⟨g6, 0, none⟩, c6, some ⟨g10, 0, none⟩, c10⟩ ∧ g6 ≠ g10 ∧ OwnI w B (.slice (some ⟨g6, 0, none⟩) ha.st.length c6) ha.st ∧ OwnI w B (.slice (some ⟨g10, 0, none⟩) ha.en.length c10) ha.en
        | 4 => ∃ g v0 v1 v2 v3, v = .pointer (some ⟨g, 0, none⟩) ∧ B ≤ g ∧ w.heap[g]? = some (.cells #[v0, v1, v2, v3] 24 (0, 0))
        | 5 => ∃ a c, v = .slice a l.length c ∧ OwnC w B (.slice a l.length c) l
        | _ => True) (fun ls vs w => Ext w6 w ∧ (ls 6 = true → ls 3 = true ∧ ls 4 = true ∧ ∃ g v0 v1 v2 v3, vs 4 = .pointer (some ⟨g, 0, none⟩) ∧ vs 3 = .agg #[v0, v1, v2, v3] ∧ w.heap[g]? = some (.cells #[v0, v1, v2, v3] 24 (0, 0)))) (by kernel_rfl) (by kernel_rfl) (by kernel_rfl) ?_ ?_ ?_
      · exact ⟨(Ext.refl _).drew, fun h => by cases h⟩
      · refine ⟨?_, ?_, ?_, ?_, ?_, ?_, ?_, trivial⟩
        · intro ls vs a w1 hi hJ hold hdep K hK
          have q1 : a.tmps[1]?.getD undef = .slice la l.length lc := hold 1 (by kernel_rfl)
          rw [if_pos (by rfl)]
          clear hold hdep
          go_simp
          exact hK _ _ (fun _ _ _ h => h) hJ rfl
        · intro ls vs a w1 hi hJ hold hdep K hK
          have q80 : a.tmps[80]?.getD undef = .slice la l.length lc := (hdep 0 80 (by kernel_rfl) (by kernel_rfl)).2.1.trans (hdep 0 80 (by kernel_rfl) (by kernel_rfl)).2.2
          rw [if_pos (by rfl)]
          clear hold hdep
          go_simp
          have hz := hJ.1
          go_at_call 16
          (with_reducible refine (HCP.out _ (hw6.trans hz) (by omega)).mono ?_); rintro e w2 ⟨ca, cc, rfl, he2, ho2⟩
          exact hK _ _ (fun j u _ h => by
            match j, h with
            | 0, h | 2, h => exact h
            | 1, h => (obtain ⟨a, c, h1, h2⟩ := h; exact ⟨a, c, h1, h2.ext he2⟩)
            | 3, h => (obtain ⟨g6, c6, g10, c10, h1, h2, h3, h4⟩ := h; exact ⟨g6, c6, g10, c10, h1, h2, h3.ext he2, h4.ext he2⟩)
            | 4, h => (obtain ⟨g, v0, v1, v2, v3, h1, h2, h3⟩ := h; exact ⟨g, v0, v1, v2, v3, h1, h2, he2.block h3⟩)
            | 5, h => (obtain ⟨a, c, h1, h2⟩ := h; exact ⟨a, c, h1, h2.ext he2⟩)
            | (n + 6), h => exact h) ⟨hz.trans he2, fun h => by obtain ⟨h1, h2, g, v0, v1, v2, v3, k1, k2, k3⟩ := hJ.2 h; exact ⟨h1, h2, g, v0, v1, v2, v3, k1, k2, he2.block k3⟩⟩ ⟨ca, cc, rfl, own_downC ho2 (by rw [hB]; exact hz.size)⟩
        · intro ls vs a w1 hi hJ hold hdep K hK
          have q3 : a.tmps[3]?.getD undef = .pointer (some ⟨w.heap.size, 0, none⟩) := hold 3 (by kernel_rfl)
          rw [if_pos (by rfl)]
          clear hold hdep
          have hz := hJ.1
          go_simp
          exact hK _ _ (fun _ _ _ h => h) hJ rfl
        · intro ls vs a w1 hi hJ hold hdep K hK
          have q82 : a.tmps[82]?.getD undef = hval ha ⟨sa, sc, ea, ec⟩ := (hdep 2 82 (by kernel_rfl) (by kernel_rfl)).2.1.trans (hdep 2 82 (by kernel_rfl) (by kernel_rfl)).2.2
          rw [if_pos (by rfl)]
          clear hold hdep
          go_simp
          have hz := hJ.1
          go_at_call 15
          (with_reducible refine (HOW.out _ (hw6.trans hz) (by omega) (by omega)).mono ?_); rintro e w2 ⟨g6, c6, g10, c10, rfl, he2, hne, hb6, hb10, ho6, ho10⟩
          exact hK _ _ (fun j u _ h => by
            match j, h with
            | 0, h | 2, h => exact h
            | 1, h => (obtain ⟨a, c, h1, h2⟩ := h; exact ⟨a, c, h1, h2.ext he2⟩)
            | 3, h => (obtain ⟨g6, c6, g10, c10, h1, h2, h3, h4⟩ := h; exact ⟨g6, c6, g10, c10, h1, h2, h3.ext he2, h4.ext he2⟩)
            | 4, h => (obtain ⟨g, v0, v1, v2, v3, h1, h2, h3⟩ := h; exact ⟨g, v0, v1, v2, v3, h1, h2, he2.block h3⟩)
            | 5, h => (obtain ⟨a, c, h1, h2⟩ := h; exact ⟨a, c, h1, h2.ext he2⟩)
            | (n + 6), h => exact h) ⟨hz.trans he2, fun h => by have := (hJ.2 h).1; rw [hi] at this; cases this⟩ ⟨g6, c6, g10, c10, rfl, hne, own_down ho6 (by rw [hB]; exact hz.size), own_down ho10 (by rw [hB]; exact hz.size)⟩
        · intro ls vs a w1 hi hJ hold hdep K hK
          rw [if_pos (by rfl)]
          clear hold hdep
          go_simp
          have hz := hJ.1
          have he2 := (Ext.refl w1).alloc (Obj.cells #[.int .i64 0, .int .i64 0, .slice none 0 0, .slice none 0 0] 24)
          exact hK _ _ (fun j u _ h => by
            match j, h with
            | 0, h | 2, h => exact h
            | 1, h => (obtain ⟨a, c, h1, h2⟩ := h; exact ⟨a, c, h1, h2.ext he2⟩)
            | 3, h => (obtain ⟨g6, c6, g10, c10, h1, h2, h3, h4⟩ := h; exact ⟨g6, c6, g10, c10, h1, h2, h3.ext he2, h4.ext he2⟩)
            | 4, h => (obtain ⟨g, v0, v1, v2, v3, h1, h2, h3⟩ := h; exact ⟨g, v0, v1, v2, v3, h1, h2, he2.block h3⟩)
            | 5, h => (obtain ⟨a, c, h1, h2⟩ := h; exact ⟨a, c, h1, h2.ext he2⟩)
            | (n + 6), h => exact h) ⟨hz.trans he2, fun h => by have := (hJ.2 h).2.1; rw [hi] at this; cases this⟩ ⟨_, _, _, _, _, rfl, by rw [hB]; exact hz.size, heap_new _ _⟩
        · intro ls vs a w1 hi hJ hold hdep K hK
          obtain ⟨hl1, q81, p81⟩ := hdep 1 81 (by kernel_rfl) (by kernel_rfl)
          rw [if_pos (by rfl)]
          clear hold hdep
          go_simp
          exact hK _ _ (fun _ _ _ h => h) hJ p81
        · intro ls vs a w1 hi hJ hold hdep K hK
          obtain ⟨hl4, q10, p10⟩ := hdep 4 10 (by kernel_rfl) (by kernel_rfl)
          obtain ⟨hl3, q83, p83⟩ := hdep 3 83 (by kernel_rfl) (by kernel_rfl)
          rw [if_pos (by rfl)]
          clear hold hdep
          have hz := hJ.1
          obtain ⟨g, v0, v1, v2, v3, k1, k2, k3⟩ := p10
          obtain ⟨g6, c6, g10, c10, m1, m2, m3, m4⟩ := p83
          rw [k1] at q10
          have q83' : a.tmps[83]?.getD undef = .agg #[.int .i64 ha.ro, .int .i64 ha.cl, .slice (some ⟨g6, 0, none⟩) ha.st.length c6, .slice (some ⟨g10, 0, none⟩) ha.en.length c10] := q83.trans m1
          have fz := obj_free k3 w1 (Ext.refl _)
          obtain ⟨z0, z1, z2, z3⟩ := obj_cells4 k3
          have hr1 := Ext.refl w1
          clear q83
          go_simp
          have he2 : ExtX g w1 _ := ((((ExtX.refl g w1).set 0 (.int .i64 ha.ro)).set 1 (.int .i64 ha.cl)).set 2 (.slice (some ⟨g6, 0, none⟩) ha.st.length c6)).set 3 (.slice (some ⟨g10, 0, none⟩) ha.en.length c10)
          have hbk := block_set (block_set (block_set (block_set k3 0 (.int .i64 ha.ro)) 1 (.int .i64 ha.cl)) 2 (.slice (some ⟨g6, 0, none⟩) ha.st.length c6)) 3 (.slice (some ⟨g10, 0, none⟩) ha.en.length c10)
          exact hK undef _ (fun j u _ h => by
            match j, h with
            | 0, h | 2, h => exact h
            | 1, h => (obtain ⟨a, c, h1, h2⟩ := h; exact ⟨a, c, h1, ownsRow_x h2 he2 k3 (by decide)⟩)
            | 3, h => (obtain ⟨g6, c6, g10, c10, h1, h2, h3, h4⟩ := h; exact ⟨g6, c6, g10, c10, h1, h2, ownsRow_x h3 he2 k3 (by decide), ownsRow_x h4 he2 k3 (by decide)⟩)
            | 4, h => (obtain ⟨g', v0', v1', v2', v3', h1, h2, h3⟩ := h; by_cases hgg : g' = g; (subst hgg; exact ⟨_, _, _, _, _, h1, h2, hbk⟩); exact ⟨g', v0', v1', v2', v3', h1, h2, (he2.block _ (lt_of_block h3) hgg).trans h3⟩)
            | 5, h => (obtain ⟨a, c, h1, h2⟩ := h; exact ⟨a, c, h1, ownsRow_x h2 he2 k3 (by decide)⟩)
            | (n + 6), h => exact h) ⟨(hz.x.trans he2).ext (by rw [← hB]; exact k2), fun _ => ⟨hl3, hl4, g, _, _, _, _, k1, m1, hbk⟩⟩ trivial
      intro vs w9 ls9 hl9 hJ9 hφ
      have e0 := hφ 0 (by kernel_rfl)
      have e1 := hφ 1 (by kernel_rfl)
      have e2 := hφ 2 (by kernel_rfl)
      have e3 := hφ 3 (by kernel_rfl)
      have e4 := hφ 4 (by kernel_rfl)
      have e5 := hφ 5 (by kernel_rfl)
      try dsimp only at e0 e1 e2 e3 e4 e5
      simp only [putAll, Act.put, List.setIfInBounds_toArray, List.set_cons_zero, List.set_cons_succ]
      rw [e0, e2]

      obtain ⟨hz9, hk9⟩ := hJ9
      obtain ⟨-, -, gz, v0, v1, v2, v3, k1, k2, k3⟩ := hk9 (hl9 6 (by decide))
      obtain ⟨ca, cc, ec1, ho4⟩ := e5
      obtain ⟨g6, c6, g10, c10, m1, hne, ho6, ho10⟩ := e3
      obtain ⟨gz', _, _, _, _, k4, hBz, -⟩ := e4
      have hgz : gz' = gz := by rw [k1] at k4; cases k4; rfl
      subst hgz
      rw [m1] at k2
      simp only [hval, Value.agg.injEq, Array.mk.injEq, List.cons.injEq, and_true] at k2
      obtain ⟨rfl, rfl, rfl, rfl⟩ := k2
      rw [ec1, k1, m1]
      obtain ⟨u1, hu1⟩ : ∃ u, u = vs 1 := ⟨_, rfl⟩
      rw [← hu1]
      clear e0 e1 e2 hφ hk9 hl9 m1 ec1 k1 k4 hu1
      have hro := k3
      obtain ⟨z0, z1, z2, z3⟩ := obj_cells4 k3
      have fz := obj_free k3 w9 (Ext.refl _)
      have hr9 := Ext.refl w9
      go_upto_region 10 with fail
      have hX : ExtX gz' w9 _ := (ExtX.refl gz' w9).set 0 (.int .i64 4)
      have hbk := block_set k3 0 (.int .i64 4)
      generalize hw10 : w9.setCell ⟨gz', 0, none⟩ (.int .i64 4) = w10 at *
      replace ho4 := ownsRow_x ho4 hX k3 (by decide)
      replace ho6 := ownsRow_x ho6 hX k3 (by decide)
      replace ho10 := ownsRow_x ho10 hX k3 (by decide)
      have hz10 : Ext w6 w10 := (hz9.x.trans hX).ext (by rw [← hB]; exact hBz)
      have hbk2 : w10.heap[gz']? = some (.cells #[.int .i64 4, .int .i64 ha.cl, .slice (some ⟨g6, 0, none⟩) ha.st.length c6, .slice (some ⟨g10, 0, none⟩) ha.en.length c10] 24 (0, 0)) := hbk
      have hne10 : gz' ≠ g10 := ownsRow_ne ho10 hbk2 (by decide)
      obtain ⟨hB10, cur10, hcur10⟩ := ownsRow_blk ho10
      have z3 := (obj_cells4 hbk2).2.2.2 w10 (Ext.refl _)
      clear hX hbk hw10 fz hr9 hro k3 hz9 z0 z1 z2
      go_wp2_with (fail)
      go_loopw [11] (fun i wr => ∃ k : Nat, k ≤ ha.en.length ∧ i = .int .i64 k ∧ ExtX g10 w10 wr ∧ Hid (OwnI wr B (.slice (some ⟨g10, 0, none⟩) ha.en.length c10) (richTo ha.en k))) (fun i _ => ha.en.length - (intOf i).toNat)
      case atStart => exact ⟨0, Nat.zero_le _, rfl, ExtX.refl _ _, by rw [richTo_zero]; exact ho10⟩
      case round =>
        obtain ⟨k, hk, rfl, hr, hown⟩ := hrel
        have y3 : ∀ W, Ext wr W → W.cell? ⟨gz', 3, none⟩ = some (.slice (some ⟨g10, 0, none⟩) ha.en.length c10) := fun W h => h.cell (hr.cell z3 hne10)
        have hrr := Ext.refl wr
        by_cases hlt : k < ha.en.length
        · have hcl := ownI_cell (richTo_len _ _ hk) hown.out k hlt
          have k5 : ∀ W, Ext wr W → W.cell? ⟨g10, k, none⟩ = some (.int .i64 (nth (richTo ha.en k) k)) := fun W h => h.cell hcl
          have fz := ownI_free (richTo_len _ _ hk) hown.out k
          have hpt := ownI_put (j := k) (richTo_len _ _ hk) hown.out 1000
          rw [richTo_succ _ _ hlt] at hpt
          have HPT := Lib.hid hpt
          clear hpt hcl
          go_wp2_with (fail)
          go_roundw
          case rel => exact ⟨k + 1, by omega, by go_num, hr.set _ _, HPT⟩
          case measure => simp [intOf]; omega
        · obtain rfl : k = ha.en.length := by omega
          go_upto_region 14 with fail
          have hw11 : Ext w6 wr := (hz10.x.trans hr).ext (by rw [← hB]; exact hB10)
          have ho4' : OwnC wr B (.slice ca l.length cc) l := ownsRow_x ho4 hr hcur10 (by decide)
          have ho6' : OwnI wr B (.slice (some ⟨g6, 0, none⟩) ha.st.length c6) ha.st := ownsRow_at ho6 (hr.block _ (lt_of_block (ownsRow_blk ho6).2.choose_spec) hne)
          have hbx := (hr.block _ (lt_of_block hbk2) hne10).trans hbk2
          have HH := Lib.hid (show HallAt wr (richR ha) ⟨some ⟨g6, 0, none⟩, c6, some ⟨g10, 0, none⟩, c10⟩ from ⟨ho6'.ints.1, by have := hown.out; rw [richTo_end] at this; exact this.ints.1⟩)
          have HOT := Lib.hid ho4'
          have HBX := Lib.hid hbx
          have HB6 := Lib.hid (ownsRow_blk ho6'); have HB10 := Lib.hid (ownsRow_blk hown.out)
          clear ho4 ho4' ho6 ho6' ho10 hbx hbk2 hown hr hr6 y3 z3 hz10 hB10 hcur10 hne10 hne hk hlt
          generalize wr = w11 at *
          have t0 := fun W (h : Ext w11 W) => a0 W (hw11.trans h)
          have hr11 := Ext.refl w11
          go_region_held3 (fun W => Ext w11 W) (first | with_reducible assumption | exact Ext.drew (by with_reducible assumption))
            (first
            | (go_at_call 16; (with_reducible refine (HCP.out _ ((hw6.trans hw11).trans (by with_reducible assumption)) (by omega)).mono ?_); rintro e w14 ⟨ka, kc, rfl, he4, ho14⟩; have hx4 := Ext.trans (show Ext w11 _ by with_reducible assumption) he4; have HO14 := Lib.hid ho14; clear ho14)
            | (go_at_call 17; (with_reducible refine (HIN.out _ ((hw6.trans hw11).trans (by with_reducible assumption)) (by rw [HPN.out]; omega)).mono ?_); rintro e w15 ⟨ja, jc, rfl, he5, ho15⟩; have hx5 := Ext.trans (show Ext w11 _ by with_reducible assumption) he5; have HO15 := Lib.hid ho15; clear ho15)
            | fail)
          have hx15 := hx4.trans he5
          obtain ⟨go, hgoB, hgo, hgz, hg6, hg10⟩ : ∃ go, B ≤ go ∧ (0 < l.length → ca = some ⟨go, 0, none⟩ ∧ go < w11.heap.size) ∧ gz' ≠ go ∧ g6 ≠ go ∧ g10 ≠ go := by
            by_cases h0 : 0 < l.length
            · obtain ⟨g, h1, h2, h3⟩ := ownC_form HOT.out h0
              have HO := HOT.out
              rw [h1] at HO
              obtain ⟨_, cur6, hc6⟩ := HB6.out
              obtain ⟨_, cur10, hc10⟩ := HB10.out
              exact ⟨g, h2, fun _ => ⟨h1, h3⟩, ownsRow_ne HO HBX.out (by decide), ownsRow_ne HO hc6 (by decide), ownsRow_ne HO hc10 (by decide)⟩
            · obtain ⟨_, cur6, hc6⟩ := HB6.out
              obtain ⟨_, cur10, hc10⟩ := HB10.out
              have h1 := lt_of_block HBX.out; have h2 := lt_of_block hc6; have h3 := lt_of_block hc10
              have h4 := hw11.size
              exact ⟨w11.heap.size, by omega, fun h => absurd h h0, by omega, by omega, by omega⟩
          have HGO := Lib.hid hgo
          have HO15' : Hid (OwnI w15 w11.heap.size (.slice ja p.length jc) p) := own_down HO15.out (by have := hx4.size; exact this)
          have HO14' : Hid (OwnC w15 w11.heap.size (.slice ka l.length kc) l) := HO14.out.ext he5
          have HOT' : Hid (OwnC w15 B (.slice ca l.length cc) l) := HOT.out.ext hx15
          have HXX : Hid (ExtX go w11 w15) := hx15.x
          obtain ⟨B13, hB13⟩ : ∃ b, b = w11.heap.size := ⟨_, rfl⟩
          rw [← hB13] at HO15' HO14'
          clear t0 HOT HO14 HO15 hx4 hx5 he4 he5 hgo hx15 hrr z3
          go_wp2_with (fail)
          go_loopw [12, 13, 14] (fun s12 s13 i wr => ∃ (k : Nat) (l' : List Camp) (p' : List Int) (n12 n13 : Nat) (ka : Option Addr) (kc : Nat) (ja : Option Addr) (jc : Nat), k ≤ l.length ∧ s12 = .slice ka n12 kc ∧ s13 = .slice ja n13 jc ∧ i = .int .i64 k ∧
            Hid (ExtX go w11 wr) ∧ Hid (OwnC wr B (.slice ca l.length cc) (othTo ha.st.length ha.cl cu l p ch k)) ∧ Hid (OwnC wr B13 (.slice ka n12 kc) l') ∧ Hid (OwnI wr B13 (.slice ja n13 jc) p') ∧ Hid (CutSt ha.st.length l p cu l' p' ∧ l'.length = n12 ∧ p'.length = n13)) (fun _ _ i _ => l.length - (intOf i).toNat)
          case atStart => exact ⟨0, l, p, _, _, ka, kc, ja, jc, Nat.zero_le _, rfl, rfl, rfl, HXX, by rw [othTo_zero]; exact HOT', HO14', HO15', ⟨.inl ⟨rfl, rfl⟩, rfl, rfl⟩⟩
          case round =>
            clear HXX HOT' HO14' HO15'
            obtain ⟨k, l', p', n12, n13, qa, qc, ra, rc, hk, rfl, rfl, rfl, hX, hOT, hOC, hOI, hCS⟩ := hrel
            by_cases hlt : k < l.length
            · obtain ⟨rfl, hgs⟩ := HGO.out (by omega)
              obtain ⟨b, o, rfl, c0, c1, c2, c3, c4, c5, c6⟩ := HL.out.at k hlt
              have hr : Ext w6 wr := (hw11.x.trans hX.out).ext (by rw [← hB]; exact hgoB)
              have hrr := Ext.refl wr
              have hwr := hw6.trans hr
              replace c0 := fun W (h : Ext wr W) => c0 W (hwr.trans h)
              replace c2 := fun W (h : Ext wr W) => c2 W (hwr.trans h)
              replace c4 := fun W (h : Ext wr W) => c4 W (hwr.trans h)
              have f0 := fun W (h : Ext wr W) => a0 W (hr.trans h)
              have f1 := fun W (h : Ext wr W) => a1 W (hr.trans h)
              have f2 := fun W (h : Ext wr W) => a2 W (hr.trans h)
              have d1 := fun W (h : Ext wr W) => b1 W (hr.trans h)
              have d2 := fun W (h : Ext wr W) => b2 W (hr.trans h)
              go_upto_region 18 with fail
              refine wp_region_ext (by kernel_rfl) (by kernel_rfl) hrr ?_
              repeat (first | go_big_quiet_step (fail) | quiet_step (fail))
              refine wpQuiet_nil ?_
              rintro _ ⟨nq, rfl⟩
              have hq := nq.ok
              generalize nq.val = wq at *
              by_cases hcuk : (cth l k).cu = cu
              · have T7 : ((cth l k).cu == cu) = true := by simpa using hcuk
                go_wp2_with (fail)
                go_roundw
                case rel => exact ⟨k + 1, l', p', _, _, _, _, _, _, by omega, rfl, rfl, by go_num, hX.out.trans hq.x, by rw [othTo_skip _ _ _ _ _ _ _ hlt hcuk]; exact hOT.out.ext hq, hOC.out.ext hq, hOI.out.ext hq, hCS.out⟩
                case measure => simp [intOf]; omega
              · have T7 : ((cth l k).cu == cu) = false := by simpa using hcuk
                obtain ⟨kk, hkk⟩ : ∃ v, v = pickS ch k := ⟨_, rfl⟩
                obtain ⟨hk0, hk1⟩ : 0 ≤ kk ∧ kk ≤ 255 := by rw [hkk]; exact HCH.out k
                have hbd : 0 ≤ (cth l k).ea ∧ (cth l k).ea ≤ nth p k ∧ nth p k ≤ 96 ∧ 1 ≤ (cth l k).ho ∧ (cth l k).ho ≤ 24 := by
                  have hci := HV.out.cb k hlt
                  have hoi := okAt_of_breach HBR.out hlt
                  have hit := ((okAt_hours (okAt_nonneg hci.ea0 hci.pr0 hoi)).1 hoi).1
                  rw [inTimeB_iff] at hit
                  obtain ⟨a, b, d, q, f, g, k, m, o, r, s, t, u⟩ := hci
                  have := HV.out.n2
                  refine ⟨o, ?_, ?_, f, g⟩ <;> omega
                obtain ⟨he0, hep, hp96, hho1, hho2⟩ := hbd
                go_wp2_with (fail)
                (with_reducible refine (HPI.out _ (hwr.trans (by first | exact hq | with_reducible assumption)) k (by omega)).mono ?_); rintro e w16 ⟨rfl, he16⟩
                rw [← hkk]
                have HKK := Lib.hid hkk
                clear hkk
                have hq16 := hq.trans he16
                replace hOT : Hid (OwnC w16 B (.slice (some ⟨go, 0, none⟩) l.length cc) (othTo ha.st.length ha.cl cu l p ch k)) := hOT.out.ext hq16
                replace hOC : Hid (OwnC w16 B13 (.slice qa n12 qc) l') := hOC.out.ext hq16
                replace hOI : Hid (OwnI w16 B13 (.slice ra n13 rc) p') := hOI.out.ext hq16
                replace hX : Hid (ExtX go w11 w16) := hX.out.trans hq16.x
                replace hr := hr.trans hq16
                have hwr16 := hw6.trans hr
                obtain ⟨pb, po, rfl, p0⟩ := HP'.out.at k (by rw [HPN.out]; exact hlt)
                go_upto_region 20 with fail
                clear c0 c1 c2 c3 c4 c5 c6 f0 f1 f2 d1 d2 hrr hq he16 hq16
                obtain ⟨b', o', hbo, c0, c1, c2, c3, c4, c5, c6⟩ := HL.out.at k hlt
                simp only [Option.some.injEq, Addr.mk.injEq, and_true] at hbo
                obtain ⟨rfl, rfl⟩ := hbo
                have HSS : Hid ((othTo ha.st.length ha.cl cu l p ch k).set k (cth l k) = othTo ha.st.length ha.cl cu l p ch k) := by
                  have := set_same (othTo ha.st.length ha.cl cu l p ch k) k (by rw [othTo_len]; exact hlt)
                  rwa [cth_othTo _ _ _ _ _ _ _ _ hlt, if_neg (by omega)] at this
                generalize w16 = wq at *
                refine r20_law hw6 hr hgoB hB hlt hk0 hk1 he0 hep hp96 hOT HSS a0 p0 c4 _ (by rfl) rfl rfl rfl rfl rfl ?_
                intro vs w9 ls9 hl9 hJ9 e0 e1 e2 e3 e4 e5 e6 e7 e8 e9 e10 e11 e12 e13 e14 e15 e16 e17 e18 e19
                simp only [Act.put, List.setIfInBounds_toArray, List.set_cons_zero, List.set_cons_succ]
                rw [e0, e1, e2, e3, e4, e5, e6, e7, e8, e9, e10, e11, e12, e13, e14, e15, e16, e17, e18, e19]
                obtain ⟨hzr, -, hst9⟩ := hJ9
                obtain ⟨hx9, hoc9⟩ := hst9 (hl9 20 (by decide))
                clear hst9 hl9 HSS
                have hgB13 : go < B13 := by omega
                replace hX : Hid (ExtX go w11 w9) := hX.out.trans hx9
                replace hOC : Hid (OwnC w9 B13 (.slice qa n12 qc) l') := own_above hOC.out hx9 hgB13
                replace hOI : Hid (OwnI w9 B13 (.slice ra n13 rc) p') := own_above hOI.out hx9 hgB13
                obtain ⟨O, HO⟩ : ∃ O, Hid (O = othTo ha.st.length ha.cl cu l p ch k) := ⟨_, rfl⟩
                obtain ⟨c9, hc9⟩ : ∃ c : Camp, Hid (c = cput (cth l k) 1 (kk % (nth p k - (cth l k).ea + 1) % 25)) := ⟨_, rfl⟩
                rw [← HO.out, ← hc9.out] at hoc9
                have HOL : O.length = l.length := by rw [HO.out, othTo_len]
                clear hOT hx9 e0 e1 e2 e3 e4 e5 e6 e7 e8 e9 e10 e11 e12 e13 e14 e15 e16 e17 e18 e19 hr hwr hwr16
                obtain ⟨z3, fz⟩ := ownC_atC (j := 3) HOL hoc9 hlt (by omega)
                have hp3 := fun v : Int => ownC_putC (j := 3) HOL hoc9 hlt (by omega) v
                have z6 : ∀ v : Int, (w9.setCell ⟨go, k * 7 + 3, none⟩ (.int .i64 v)).cell? ⟨go, k * 7 + 6, none⟩ = some (.int .i64 c9.we) := fun v : Int => (ownC_atC (j := 6) HOL (hp3 v) hlt (by omega)).1
                have fz6 : ∀ v : Int, (w9.setCell ⟨go, k * 7 + 3, none⟩ (.int .i64 v)).frozen? ⟨go, k * 7 + 6, none⟩ = false := fun v : Int => (ownC_atC (j := 6) HOL (hp3 v) hlt (by omega)).2 _
                have HP6 := Lib.hid (ownC_putC (j := 6) HOL (hp3 (kk * 3)) hlt (by omega) (kk % 100))
                replace z3 : ∀ W, Ext w9 W → W.cell? ⟨go, k * 7 + 3, none⟩ = some (.int .i64 c9.en) := fun W h => h.cell z3
                replace fz := fz (k * 7 + 3)
                have hr9 := Ext.refl w9
                clear hp3 hoc9
                go_upto_region 22 with fail
                have hxa : ExtX go w9 _ := ((ExtX.refl go w9).set (k * 7 + 3) (.int .i64 (kk * 3))).set (k * 7 + 6) (.int .i64 (kk % 100))
                generalize hwa : (w9.setCell ⟨go, k * 7 + 3, none⟩ (.int .i64 (kk * 3))).setCell ⟨go, k * 7 + 6, none⟩ (.int .i64 (kk % 100)) = wa at *
                clear hwa z3 z6 fz fz6 hr9
                have hra : Ext w6 wa := (hzr.x.trans hxa).ext (by rw [← hB]; exact hgoB)
                obtain ⟨z5, fz5⟩ := ownC_atC (j := 5) HOL HP6.out hlt (by omega)
                have HP5 := Lib.hid (ownC_putC (j := 5) HOL HP6.out hlt (by omega) ha.st.length)
                replace z5 : ∀ W, Ext wa W → W.cell? ⟨go, k * 7 + 5, none⟩ = some (.int .i64 c9.la) := fun W h => h.cell z5
                replace fz5 := fz5 (k * 7 + 5)
                have hraa := Ext.refl wa
                have d2 := fun W (h : Ext wa W) => b2 W (hra.trans h)
                clear HP6
                go_upto_region 23 with fail
                have hxb : ExtX go w9 _ := hxa.set (k * 7 + 5) (.int .i64 ha.st.length)
                generalize hwb : wa.setCell ⟨go, k * 7 + 5, none⟩ (.int .i64 ha.st.length) = wb at *
                clear hwb z5 fz5 hraa d2 hra hxa
                have hrb : Ext w6 wb := (hzr.x.trans hxb).ext (by rw [← hB]; exact hgoB)
                have hwb := hw6.trans hrb
                replace hX : Hid (ExtX go w11 wb) := hX.out.trans hxb
                replace hOC : Hid (OwnC wb B13 (.slice qa n12 qc) l') := own_above hOC.out hxb hgB13
                replace hOI : Hid (OwnI wb B13 (.slice ra n13 rc) p') := own_above hOI.out hxb hgB13
                clear hxb hzr
                have e0 := fun W (h : Ext wb W) => c0 W (hwb.trans h)
                have f1 := fun W (h : Ext wb W) => a1 W (hrb.trans h)
                have d1 := fun W (h : Ext wb W) => b1 W (hrb.trans h)
                obtain ⟨hcu0', hcu1'⟩ : 0 ≤ (cth l k).cu ∧ (cth l k).cu ≤ 20 := ⟨(HV.out.cb k hlt).cu0, (HV.out.cb k hlt).cu1⟩
                obtain ⟨bb, hbb, hsp⟩ : ∃ bb : Bool, Hid (bb = true ↔ (¬ ((cth l k).cu + 1) % 21 = cu ∧ ha.cl = 0)) ∧ (((((cth l k).cu + 1) % 21 != cu) = false ∧ bb = false) ∨ ((((cth l k).cu + 1) % 21 != cu) = true ∧ (ha.cl == 0) = false ∧ bb = false) ∨ ((((cth l k).cu + 1) % 21 != cu) = true ∧ (ha.cl == 0) = true ∧ bb = true)) := by
                  by_cases h1 : ((cth l k).cu + 1) % 21 = cu
                  · exact ⟨false, by simp [Hid, h1], .inl ⟨by simp [h1], rfl⟩⟩
                  · by_cases h2 : ha.cl = 0
                    · exact ⟨true, by simp [Hid, h1, h2], .inr (.inr ⟨by simp [h1], by simp [h2], rfl⟩)⟩
                    · exact ⟨false, by simp [Hid, h1, h2], .inr (.inl ⟨by simp [h1], by simp [h2], rfl⟩)⟩
                have hrbb := Ext.refl wb
                clear c0 c1 c3 c4 c5 c6
                go_upto_region 24 with fail
                refine wp_cut9 167 168 169 170 171 172 173 174 175 (fun _ _ _ _ _ _ _ _ s wx => s = .bool bb ∧ Ext wb wx) ?rest ?first
                case first =>
                  intro J K' hJ hK'
                  simp only [Act.put, List.setIfInBounds_toArray, List.set_cons_zero, List.set_cons_succ] at hJ
                  rcases hsp with ⟨A1, rfl⟩ | ⟨A1, A2, rfl⟩ | ⟨A1, A2, rfl⟩
                  all_goals
                    go_wp2_with fail
                    refine Met.intro ?_
                    exact hJ _ _ _ _ _ _ _ _ _ _ ⟨rfl, hrbb⟩
                case rest =>
                  intro x167 x168 x169 x170 x171 x172 x173 x174 x175 wc hcut
                  simp only [Act.put, List.setIfInBounds_toArray, List.set_cons_zero, List.set_cons_succ]
                  obtain ⟨rfl, hrc⟩ := hcut
                  clear hsp e0 f1 d1 hrbb
                  generalize wc = wd at *
                  have hrd := hrb.trans hrc
                  replace hX : Hid (ExtX go w11 wd) := hX.out.trans hrc.x
                  replace hOC : Hid (OwnC wd B13 (.slice qa n12 qc) l') := own_ext hOC.out hrc
                  replace hOI : Hid (OwnI wd B13 (.slice ra n13 rc) p') := own_ext hOI.out hrc
                  replace HP5 : Hid (OwnC wd B (.slice (some ⟨go, 0, none⟩) l.length cc) (O.set k (cput (cput (cput c9 3 (kk * 3)) 6 (kk % 100)) 5 ha.st.length))) := own_ext HP5.out hrc
                  clear hrc hrb hwb
                  have hop : ∀ r X, Hid (r = cput (cput (cput c9 3 (kk * 3)) 6 (kk % 100)) 5 (ha.st.length : Int)) → Hid (X = if ¬ ((cth l k).cu + 1) % 21 = cu ∧ ha.cl = 0 then cput r 0 (((cth l k).cu + 1) % 21) else r) → O.set k X = othTo ha.st.length ha.cl cu l p ch (k + 1) := fun r X hr hX => by
                    rw [HO.out]
                    refine othTo_put _ _ _ _ _ _ _ hlt hcuk _ ?_
                    rw [hX.out, ← HKK.out]
                    exact othC_puts _ _ _ _ _ _ _ (by rw [hr.out, hc9.out])
                  have HOPP := Lib.hid hop
                  clear hop
                  go_upto_if 175 with fail
                  refine wp_cut5 176 177 178 179 180 (fun _ _ _ _ _ wx => Ext w6 wx ∧ Hid (ExtX go w11 wx) ∧ Hid (OwnC wx B (.slice (some ⟨go, 0, none⟩) l.length cc) (othTo ha.st.length ha.cl cu l p ch (k + 1))) ∧ Hid (OwnC wx B13 (.slice qa n12 qc) l') ∧ Hid (OwnI wx B13 (.slice ra n13 rc) p')) ?rest ?first
                  case first =>
                    intro J K' hJ hK'
                    simp only [Act.put, List.setIfInBounds_toArray, List.set_cons_zero, List.set_cons_succ] at hJ
                    cases bb
                    · have hN : ¬ (¬ ((cth l k).cu + 1) % 21 = cu ∧ ha.cl = 0) := fun h => by have := hbb.out.2 h; cases this
                      go_wp2_with fail
                      refine Met.intro ?_
                      exact hJ _ _ _ _ _ _ ⟨hrd, hX, by have := HOPP.out _ _ (Lib.hid rfl) (Lib.hid rfl); rw [if_neg hN] at this; rw [← this]; exact HP5.out, hOC, hOI⟩
                    · have hN : ¬ ((cth l k).cu + 1) % 21 = cu ∧ ha.cl = 0 := hbb.out.1 rfl
                      obtain ⟨z0, fz0⟩ := ownC_atC (j := 0) HOL HP5.out hlt (by omega)
                      have HP0 : Hid (OwnC (wd.setCell ⟨go, k * 7, none⟩ (.int .i64 (((cth l k).cu + 1) % 21))) B (.slice (some ⟨go, 0, none⟩) l.length cc) (othTo ha.st.length ha.cl cu l p ch (k + 1))) := by
                        have h1 := ownC_putC (j := 0) HOL HP5.out hlt (by omega) (((cth l k).cu + 1) % 21)
                        have := HOPP.out _ _ (Lib.hid rfl) (Lib.hid rfl)
                        rw [if_pos hN] at this
                        rw [← this]; exact h1
                      replace z0 : ∀ W, Ext wd W → W.cell? ⟨go, k * 7, none⟩ = some _ := fun W h => h.cell z0
                      replace fz0 := fz0 (k * 7)
                      have hrdd := Ext.refl wd
                      clear hN
                      go_wp2_with fail
                      refine Met.intro ?_
                      have hxd := (ExtX.refl go wd).set (k * 7) (.int .i64 (((cth l k).cu + 1) % 21))
                      exact hJ _ _ _ _ _ _ ⟨(hrd.x.trans hxd).ext (by rw [← hB]; exact hgoB), hX.out.trans hxd, HP0, own_above hOC.out hxd hgB13, own_above hOI.out hxd hgB13⟩
                  case rest =>
                  intro x176 x177 x178 x179 x180 wc hcut
                  simp only [Act.put, List.setIfInBounds_toArray, List.set_cons_zero, List.set_cons_succ]
                  obtain ⟨hre, hX, hOT, hOC, hOI⟩ := hcut
                  clear HOPP HP5 hrd
                  generalize wc = we at *
                  obtain ⟨hcsT, hcs12, hcs13⟩ := hCS.out
                  have e2 := fun W (h : Ext we W) => c2 W ((hw6.trans hre).trans h)
                  have hree := Ext.refl we
                  have hs2 : decide (1 < (cth l k).ho) = false ∨ (decide (1 < (cth l k).ho) = true ∧ ((n12 : Int) == (l.length : Int)) = false) ∨ (decide (1 < (cth l k).ho) = true ∧ ((n12 : Int) == (l.length : Int)) = true) := by
                    cases decide (1 < (cth l k).ho) <;> cases ((n12 : Int) == (l.length : Int)) <;> simp
                  rcases hs2 with A1 | ⟨A1, A2⟩ | ⟨A1, A2⟩
                  iterate 2
                    · go_wp2_with fail
                      go_roundw
                      case rel => exact ⟨k + 1, l', p', _, _, _, _, _, _, by omega, rfl, rfl, by go_num, hX, hOT, hOC, hOI, hCS.out⟩
                      case measure => simp [intOf]; omega
                  · have hho2' : 2 ≤ (cth l k).ho := by simp at A1; omega
                    have hn12 : n12 = l.length := by simp at A2; omega
                    obtain ⟨hl', hp'⟩ := (cutSt_len HPN.out hcsT).2.2.2 (by omega)
                    have hn13 : n13 = l.length := by rw [← hcs13, hp', HPN.out]
                    rw [hl'] at hOC
                    rw [hp'] at hOI
                    clear hcsT hcs12 hcs13 hCS hl' hp'
                    subst hn12 hn13
                    obtain ⟨gq, rfl, hgqB, hgqs⟩ := ownC_form hOC.out (by omega)
                    obtain ⟨q, hq⟩ : ∃ q, Hid (q = kk % ((cth l k).ho - 1)) := ⟨_, rfl⟩
                    obtain ⟨hq0, hq1⟩ : 0 ≤ q ∧ q ≤ (cth l k).ho - 2 := by
                      have h1 := Int.emod_nonneg kk (b := (cth l k).ho - 1) (by omega)
                      have h2 := Int.emod_lt_of_pos kk (b := (cth l k).ho - 1) (by omega)
                      rw [hq.out]; omega
                    have hm : Int.tmod kk ((cth l k).ho - 1) = q := by rw [hq.out, Int.tmod_eq_emod_of_nonneg hk0]
                    have hz : ((cth l k).ho - 1 == 0) = false := by simp; omega
                    clear hq
                    go_upto_region 28 with fail
                    have hgq6 : w6.heap.size ≤ gq := by have := hw11.size; omega
                    refine r28_law hre hgq6 hlt hOC b2 _ (by rfl) rfl rfl rfl rfl ?_
                    intro vs w9 ls9 hl9 hJ9 e0 e1 e2 e3 e4 e5 e6 e7 e8 e9 e11 e12
                    simp only [Act.put, List.setIfInBounds_toArray, List.set_cons_zero, List.set_cons_succ]
                    rw [e0, e1, e2, e3, e4, e5, e6, e7, e8, e9, e11, e12]
                    obtain ⟨hx28, hoc28⟩ := hJ9
                    rw [hl9 10 (by decide), hl9 13 (by decide), c25_first] at hoc28
                    have hrf : Ext w6 w9 := (hre.x.trans hx28).ext hgq6
                    replace hX : Hid (ExtX go w11 w9) := hX.out.above hx28 (by omega)
                    replace hOT : Hid (OwnC w9 B (.slice (some ⟨go, 0, none⟩) l.length cc) (othTo ha.st.length ha.cl cu l p ch (k + 1))) := ownC_at hOT.out (hx28.block go (by have := hX.out.size; have := hree.size; have := lt_of_block (ownsRow_blk hOT.out).2.choose_spec; omega) (by omega))
                    replace hOI : Hid (OwnI w9 B13 (.slice ra l.length rc) p) := ownsRow_x hOI.out hx28 (ownsRow_blk hOC.out).2.choose_spec (by decide)
                    replace hOC : Hid (OwnC w9 B13 (.slice (some ⟨gq, 0, none⟩) l.length qc) (l.set k (firstC ha.st.length (cth l k) (1 + q)))) := hoc28
                    clear hoc28 hx28 hl9 e0 e1 e2 e3 e4 e5 e6 e7 e8 e9 e11 e12 hre hree
                    generalize w9 = wf at *
                    obtain ⟨b', o', hbo, c0, c1, c2, c3, c4, c5, c6⟩ := HL.out.at k hlt
                    simp only [Option.some.injEq, Addr.mk.injEq, and_true] at hbo
                    obtain ⟨rfl, rfl⟩ := hbo
                    have hwf := hw6.trans hrf
                    replace c0 := fun W (h : Ext wf W) => c0 W (hwf.trans h)
                    replace c1 := fun W (h : Ext wf W) => c1 W (hwf.trans h)
                    replace c2 := fun W (h : Ext wf W) => c2 W (hwf.trans h)
                    replace c3 := fun W (h : Ext wf W) => c3 W (hwf.trans h)
                    replace c4 := fun W (h : Ext wf W) => c4 W (hwf.trans h)
                    replace c5 := fun W (h : Ext wf W) => c5 W (hwf.trans h)
                    replace c6 := fun W (h : Ext wf W) => c6 W (hwf.trans h)
                    have hrff := Ext.refl wf
                    go_upto_region 30 with fail
                    have hk18 := heap_new wf (.cells #[.int .i64 (cth l k).cu, .int .i64 (cth l k).pr, .int .i64 (cth l k).ho, .int .i64 (cth l k).en, .int .i64 (cth l k).ea, .int .i64 (cth l k).la, .int .i64 (cth l k).we] 45)
                    have hxg : Ext wf (wf.alloc (.cells #[.int .i64 (cth l k).cu, .int .i64 (cth l k).pr, .int .i64 (cth l k).ho, .int .i64 (cth l k).en, .int .i64 (cth l k).ea, .int .i64 (cth l k).la, .int .i64 (cth l k).we] 45)) := (Ext.refl wf).alloc _
                    obtain ⟨gi, rfl, hgiB, hgis⟩ := ownI_form hOI.out (by rw [HPN.out]; omega)
                    have hgqs : gq < wf.heap.size := lt_of_block (ownsRow_blk hOC.out).2.choose_spec
                    have hgos : go < wf.heap.size := lt_of_block (ownsRow_blk hOT.out).2.choose_spec
                    have hgb : B13 ≤ wf.heap.size := by have := hX.out.size; omega
                    generalize wf.alloc (.cells #[.int .i64 (cth l k).cu, .int .i64 (cth l k).pr, .int .i64 (cth l k).ho, .int .i64 (cth l k).en, .int .i64 (cth l k).ea, .int .i64 (cth l k).la, .int .i64 (cth l k).we] 45) = wg at *
                    generalize hb18 : wf.heap.size = b18 at hk18 hgqs hgos hgis hgb ⊢
                    replace hX : Hid (ExtX go w11 wg) := hX.out.trans hxg.x
                    replace hOT : Hid (OwnC wg B (.slice (some ⟨go, 0, none⟩) l.length cc) (othTo ha.st.length ha.cl cu l p ch (k + 1))) := own_ext hOT.out hxg
                    replace hOC : Hid (OwnC wg B13 (.slice (some ⟨gq, 0, none⟩) l.length qc) (l.set k (firstC ha.st.length (cth l k) (1 + q)))) := own_ext hOC.out hxg
                    replace hOI : Hid (OwnI wg B13 (.slice (some ⟨gi, 0, none⟩) l.length rc) p) := own_ext hOI.out hxg
                    clear c0 c1 c3 c4 c5 c6 hrff
                    refine r30_law hxg hb18 hlt hho1 hho2 hq0 hq1 hk18 c2 _ (by rfl) rfl rfl rfl rfl ?_
                    intro vs w9 ls9 hl9 hJ9 e0 e1 e2 e3 e4 e5 e6 e7 e9
                    simp only [Act.put, List.setIfInBounds_toArray, List.set_cons_zero, List.set_cons_succ]
                    rw [e0, e1, e2, e3, e4, e5, e6, e7, e9]
                    obtain ⟨hx30, hbk30⟩ := hJ9
                    rw [hl9 8 (by decide), hl9 10 (by decide), c12_rest] at hbk30
                    replace hX : Hid (ExtX go w11 w9) := hX.out.above hx30 (by omega)
                    replace hOT : Hid (OwnC w9 B (.slice (some ⟨go, 0, none⟩) l.length cc) (othTo ha.st.length ha.cl cu l p ch (k + 1))) := ownsRow_other hOT.out hx30 (by omega)
                    replace hOC : Hid (OwnC w9 B13 (.slice (some ⟨gq, 0, none⟩) l.length qc) (l.set k (firstC ha.st.length (cth l k) (1 + q)))) := ownsRow_other hOC.out hx30 (by omega)
                    replace hOI : Hid (OwnI w9 B13 (.slice (some ⟨gi, 0, none⟩) l.length rc) p) := ownsRow_other hOI.out hx30 (by omega)
                    have hgqb : gq < b18 := hgqs
                    have hgib : gi < b18 := hgis
                    replace hgqs : gq < w9.heap.size := lt_of_block (ownsRow_blk hOC.out).2.choose_spec
                    replace hgis : gi < w9.heap.size := lt_of_block (ownsRow_blk hOI.out).2.choose_spec
                    clear hk18 hgos hb18 hx30 hxg c2 hl9 e0 e1 e2 e3 e4 e5 e6 e7 e9 hrf hwf
                    have hk18 := hbk30
                    clear hbk30
                    generalize w9 = wh at *
                    obtain ⟨l1, hl1⟩ : ∃ l1, Hid (l1 = l.set k (firstC ha.st.length (cth l k) (1 + q))) := ⟨_, rfl⟩
                    rw [← hl1.out] at hOC
                    have hl1n : Hid (l1.length = l.length) := by rw [Hid, hl1.out, List.length_set]
                    go_upto_region 31 with fail
                    have hp0 : 0 ≤ nth p k := by omega
                    refine r31_law hw6 hw11 hgoB hB hB13 hgB13 hgqB hgiB hgqb hgib hgqs hgis hlt hl15 hp0 hp96 hho2 hq0 hq1 hl1n HPN hX hOT hOC hOI hk18 a0 p0 _ (by rfl) rfl rfl rfl rfl rfl rfl ?_
                    intro vs w9 ls9 hl9 hJ9 e0 e1 e2 e3 e4 e5 e6 e7 e8 e9 e10 e11 e12 e13 e14 e15
                    simp only [Act.put, List.setIfInBounds_toArray, List.set_cons_zero, List.set_cons_succ]
                    rw [e0, e1, e4, e5, e6, e7, e8, e9, e10, e11]
                    obtain ⟨j1, j2, -, -, -, -, -, j8, j9, j10, j11⟩ := hJ9
                    have m14 := (j10 (hl9 14 (by decide))).2
                    have m15 := (j11 (hl9 15 (by decide))).2
                    replace hOC := j8 (hl9 3 (by decide))
                    replace hOI := j9 (hl9 13 (by decide))
                    rw [← m14] at hOC
                    rw [← m15] at hOI
                    clear m14 m15 j8 j9 j10 j11
                    obtain ⟨a14, n14, d14, hv14⟩ := ownC_slice hOC
                    obtain ⟨a15, n15, d15, hv15⟩ := own_slice hOI
                    rw [hv14] at hOC
                    rw [hv15] at hOI
                    rw [hv14, hv15]
                    replace hX := Lib.hid j1
                    replace hOT := Lib.hid j2
                    have hn14 := Lib.hid hOC.camps.2.1
                    have hn15 := Lib.hid hOI.ints.2.1
                    replace hOC := Lib.hid hOC
                    replace hOI := Lib.hid hOI
                    clear j1 j2 hv14 hv15 hl9 e0 e1 e2 e4 e5 e6 e7 e8 e9 e10 e11 e12 hk18
                    generalize vs 3 = v3 at *
                    generalize vs 13 = v13 at *
                    generalize vs 2 = v2 at *
                    generalize vs 12 = v12 at *
                    generalize w9 = wk at *
                    go_wp2_with fail
                    go_roundw
                    case rel =>
                      exact ⟨k + 1, _, _, _, _, _, _, _, _, by omega, rfl, rfl, by go_num, hX, hOT, hOC, hOI, ⟨.inr ⟨k, 1 + q, hlt, hcuk, by omega, by omega, by rw [hl1.out]; rfl, rfl⟩, hn14.out.symm, hn15.out.symm⟩⟩
                    case measure => simp [intOf]; omega
            · obtain rfl : k = l.length := by omega
              obtain ⟨hcsT, hcs12, hcs13⟩ := hCS.out
              have hrw : Ext w6 wr := (hw11.x.trans hX.out).ext (by rw [← hB]; exact hgoB)
              have hwr := hw6.trans hrw
              have hbx := (hX.out.block _ (lt_of_block HBX.out) hgz).trans HBX.out
              obtain ⟨ev2, vl2, hor, hvw⟩ : ∃ (ev2 : Int) (vl2 : List Int), Hid ((ev2 = 100) ∨ (ev2 = 0 ∧ vl2 = fl ha.st.length (viewF ha l p cu))) ∧ Hid (∀ W, Ext wr W → ∀ ia ic, Ints W ia p → Calls Try.prog 14 #[.agg #[.int .i64 4, .int .i64 ha.cl, .slice (some ⟨g6, 0, none⟩) ha.st.length c6, .slice (some ⟨g10, 0, none⟩) ha.en.length c10], .slice ca l.length cc, .slice ia p.length ic, .int .i64 cu] W (fun e W' => ∃ va vc, e = .returned (.tuple #[.slice va vl2.length vc, .int .i64 ev2]) ∧ Ext W W' ∧ Byts W' va vl2)) := by
                refine ⟨_, _, oth_view (ch := ch) HV.out HPN.out HBR.out HCU.out HCH.out, fun W hW ia ic hia => ?_⟩
                have hh : HallAt W (richR ha) ⟨some ⟨g6, 0, none⟩, c6, some ⟨g10, 0, none⟩, c10⟩ := (⟨HH.out.st.xx hX.out hg6, HH.out.en.xx hX.out hg10⟩ : HallAt wr (richR ha) ⟨some ⟨g6, 0, none⟩, c6, some ⟨g10, 0, none⟩, c10⟩).ext hW
                have := View_any (richR ha) ⟨some ⟨g6, 0, none⟩, c6, some ⟨g10, 0, none⟩, c10⟩ (othTo ha.st.length ha.cl cu l p ch l.length) ca cc p ia p.length ic cu W hh (hOT.out.camps.1.ext hW) hia rfl
                rw [othTo_len] at this
                have e : hval (richR ha) ⟨some ⟨g6, 0, none⟩, c6, some ⟨g10, 0, none⟩, c10⟩ = .agg #[.int .i64 4, .int .i64 ha.cl, .slice (some ⟨g6, 0, none⟩) ha.st.length c6, .slice (some ⟨g10, 0, none⟩) ha.en.length c10] := by simp [hval, richR]
                rw [e] at this
                exact this
              have hvc : Hid (∀ W, Ext wr W → ∀ g6 c6 g10 c10 : Nat, HallAt W ha ⟨some ⟨g6, 0, none⟩, c6, some ⟨g10, 0, none⟩, c10⟩ → Calls Try.prog 14 #[hval ha ⟨some ⟨g6, 0, none⟩, c6, some ⟨g10, 0, none⟩, c10⟩, .slice qa n12 qc, .slice ra n13 rc, .int .i64 cu] W (fun e W' => ∃ va vc, e = .returned (.tuple #[.slice va ha.st.length vc, .int .i64 0]) ∧ Ext W W' ∧ Byts W' va (fl ha.st.length (viewF ha l p cu)))) := fun W hW g6 c6 g10 c10 hh => by
                obtain ⟨k1, k2⟩ := cut_sees HV.out hl15 HPN.out HBR.out HCU.out hcsT
                have := View_any ha ⟨some ⟨g6, 0, none⟩, c6, some ⟨g10, 0, none⟩, c10⟩ l' qa qc p' ra n13 rc cu W hh (hOC.out.camps.1.ext hW) (hOI.out.ints.1.ext hW) hcs13
                rw [hcs12] at this
                refine this.mono ?_
                rintro e W' ⟨va, vc, rfl, h1, h2⟩
                rw [k1, k2, fl_len]
                rw [k2] at h2
                exact ⟨va, vc, rfl, h1, h2⟩
              obtain ⟨z0, z1, z2, z3⟩ := obj_cells4 hbx
              have f0 := fun W (h : Ext wr W) => a0 W (hrw.trans h)
              have f1 := fun W (h : Ext wr W) => a1 W (hrw.trans h)
              have d0 := fun W (h : Ext wr W) => b0 W (hrw.trans h)
              have d1 := fun W (h : Ext wr W) => b1 W (hrw.trans h)
              have d2 := fun W (h : Ext wr W) => b2 W (hrw.trans h)
              have d3 := fun W (h : Ext wr W) => b3 W (hrw.trans h)
              have hrr := Ext.refl wr
              obtain ⟨bq, hbq⟩ : ∃ b, (ev2 == 0) = b := ⟨_, rfl⟩
              clear hcsT hcs12 hcs13 hCS hbx HH HBX HB6 HB10 HGO hX hOT hOC hOI a0 a1 a2 b0 b1 b2 b3 HPI HCP HL HP' hgz hg6 hg10 hlt
              go_upto_region 32 with fail
              refine r32_law hwr hl15 HPN HIN hvw z0 z1 z2 z3 f0 f1 _ (by rfl) rfl rfl rfl ?_
              intro vs w9 ls9 hl9 hJ9 e0 e1 e2 e3 e4 e5 e6 e7 e8 e9 e10 e11 e12
              simp only [Act.put, List.setIfInBounds_toArray, List.set_cons_zero, List.set_cons_succ]
              rw [e0, e1, e2, e3, e5, e6, e10, e12]
              obtain ⟨va2, vc2, e11', hby2⟩ := e11
              rw [e11']
              have HBY2 := Lib.hid hby2
              have hx18 := hJ9
              clear e0 e1 e2 e3 e4 e5 e6 e7 e8 e9 e10 e11' e12 hby2 hJ9 hl9
              generalize w9 = w18 at *
              clear hvw hrr z0 z1 z2 z3 f0
              go_upto_if 255 with fail
              cases bq
              · have hev : ev2 = 100 := by
                  rcases hor.out with h | ⟨h, _⟩
                  · exact h
                  · rw [h] at hbq; cases hbq
                have T9 : (ev2 != 100) = false := by rw [hev]; rfl
                clear hev
                go_upto_region 38 with fail
                have hrc := Ext.refl w18
                clear hor HBY2 hbq
                have hxc := hx18.trans hrc
                generalize w18 = wd at *
                have hwd := hwr.trans hxc
                replace f1 := fun W (h : Ext wd W) => f1 W (hxc.trans h)
                replace d0 := fun W (h : Ext wd W) => d0 W (hxc.trans h)
                replace d1 := fun W (h : Ext wd W) => d1 W (hxc.trans h)
                replace d2 := fun W (h : Ext wd W) => d2 W (hxc.trans h)
                replace d3 := fun W (h : Ext wd W) => d3 W (hxc.trans h)
                have HBYd : Hid (Byts wd va (fl ha.st.length (viewF ha l p cu))) := HBY.out.ext (hrw.trans hxc)
                have hrd := Ext.refl wd
                clear HBY HIN
                refine r38_law hwd hxc hn30 hen200 HOW hvc f1 d0 d1 d2 d3 _ (by rfl) rfl rfl rfl rfl ?_
                intro vs w9 ls9 hl9 hJ9 e0 e1 e2 e3 e4 e5 e6 e7 e8 e9 e10 e11
                simp only [Act.put, List.setIfInBounds_toArray, List.set_cons_zero, List.set_cons_succ]
                rw [e0, e2, e3, e4, e5, e9, e11]
                obtain ⟨va3, vc3, e10', hby3⟩ := e10
                rw [e10']
                have HBY3 := Lib.hid hby3
                have hx21 := hJ9
                clear e0 e1 e2 e3 e4 e5 e6 e7 e8 e9 e10' e11 hby3 hJ9 hl9
                generalize w9 = w21 at *
                have hse : Hid (∀ W, Ext w21 W → Calls Try.prog 21 #[.slice va ha.st.length vc, .slice va3 ha.st.length vc3] W (Ret (.bool true) W)) := fun W hW => by
                  have := seen_any (fl ha.st.length (viewF ha l p cu)) (fl ha.st.length (viewF ha l p cu)) va va3 ha.st.length ha.st.length vc vc3 W (HBYd.out.ext (hx21.trans hW)) (HBY3.out.ext hW) (fl_len _ _) (fl_len _ _) (by omega) (by omega)
                  have hs : sameB (fl ha.st.length (viewF ha l p cu)) (fl ha.st.length (viewF ha l p cu)) = true := decide_eq_true rfl
                  rw [hs] at this; exact this
                have hr21 := Ext.refl w21
                clear hvc hrd
                go_wp2_with fail
                (with_reducible refine (hse.out _ (by first | exact hr21 | with_reducible assumption)).mono ?_); rintro e w22 ⟨rfl, he22⟩
                go_wp2_with fail
                (with_reducible refine (known_any _).mono ?_); rintro e w23 ⟨rfl, he23⟩
                go_wp2_with fail
                go_ret
                exact ⟨rfl, hwd.trans (hx21.trans (he22.trans he23))⟩
              · have hv : vl2 = fl ha.st.length (viewF ha l p cu) := by
                  rcases hor.out with h | ⟨_, h⟩
                  · rw [h] at hbq; cases hbq
                  · exact h
                have hse : Hid (∀ W, Ext w18 W → Calls Try.prog 21 #[.slice va ha.st.length vc, .slice va2 vl2.length vc2] W (Ret (.bool true) W)) := fun W hW => by
                  have := seen_any (fl ha.st.length (viewF ha l p cu)) vl2 va va2 ha.st.length vl2.length vc vc2 W (HBY.out.ext (hrw.trans (hx18.trans hW))) (HBY2.out.ext hW) (fl_len _ _) rfl (by omega) (by rw [hv, fl_len]; omega)
                  have hs : sameB (fl ha.st.length (viewF ha l p cu)) vl2 = true := by rw [hv]; exact decide_eq_true rfl
                  rw [hs] at this; exact this
                clear hv
                have hr18 := Ext.refl w18
                go_wp2_with fail
                (with_reducible refine (hse.out _ (by first | exact hr18 | with_reducible assumption)).mono ?_); rintro e w19 ⟨rfl, he19⟩
                go_upto_region 38 with fail
                have hrc := he19
                clear hse hor HBY2 hbq
                have hxc := hx18.trans hrc
                generalize w19 = wd at *
                have hwd := hwr.trans hxc
                replace f1 := fun W (h : Ext wd W) => f1 W (hxc.trans h)
                replace d0 := fun W (h : Ext wd W) => d0 W (hxc.trans h)
                replace d1 := fun W (h : Ext wd W) => d1 W (hxc.trans h)
                replace d2 := fun W (h : Ext wd W) => d2 W (hxc.trans h)
                replace d3 := fun W (h : Ext wd W) => d3 W (hxc.trans h)
                have HBYd : Hid (Byts wd va (fl ha.st.length (viewF ha l p cu))) := HBY.out.ext (hrw.trans hxc)
                have hrd := Ext.refl wd
                clear HBY HIN
                refine r38_law hwd hxc hn30 hen200 HOW hvc f1 d0 d1 d2 d3 _ (by rfl) rfl rfl rfl rfl ?_
                intro vs w9 ls9 hl9 hJ9 e0 e1 e2 e3 e4 e5 e6 e7 e8 e9 e10 e11
                simp only [Act.put, List.setIfInBounds_toArray, List.set_cons_zero, List.set_cons_succ]
                rw [e0, e2, e3, e4, e5, e9, e11]
                obtain ⟨va3, vc3, e10', hby3⟩ := e10
                rw [e10']
                have HBY3 := Lib.hid hby3
                have hx21 := hJ9
                clear e0 e1 e2 e3 e4 e5 e6 e7 e8 e9 e10' e11 hby3 hJ9 hl9
                generalize w9 = w21 at *
                have hse : Hid (∀ W, Ext w21 W → Calls Try.prog 21 #[.slice va ha.st.length vc, .slice va3 ha.st.length vc3] W (Ret (.bool true) W)) := fun W hW => by
                  have := seen_any (fl ha.st.length (viewF ha l p cu)) (fl ha.st.length (viewF ha l p cu)) va va3 ha.st.length ha.st.length vc vc3 W (HBYd.out.ext (hx21.trans hW)) (HBY3.out.ext hW) (fl_len _ _) (fl_len _ _) (by omega) (by omega)
                  have hs : sameB (fl ha.st.length (viewF ha l p cu)) (fl ha.st.length (viewF ha l p cu)) = true := decide_eq_true rfl
                  rw [hs] at this; exact this
                have hr21 := Ext.refl w21
                clear hvc hrd
                go_wp2_with fail
                (with_reducible refine (hse.out _ (by first | exact hr21 | with_reducible assumption)).mono ?_); rintro e w22 ⟨rfl, he22⟩
                go_wp2_with fail
                (with_reducible refine (known_any _).mono ?_); rintro e w23 ⟨rfl, he23⟩
                go_wp2_with fail
                go_ret
                exact ⟨rfl, hwd.trans (hx21.trans (he22.trans he23))⟩

end Go.Proofs.Ytjpgignbjkgjiaa
