/-
  Walk: the law VaultPlays.
-/
import Derived.Test.YtlahejakcgoheaaSD
import Derived.Test.YtlahejakcgoheaaLY
set_option linter.unusedVariables false
set_option linter.unusedSimpArgs false
namespace Go.Proofs.Ytlahejakcgoheaa
open Go.RowKit
theorem wrap_u8 (b : UInt8) : IntKind.u8.wrap (((b.toNat : Nat) : Int) + 1) = (((b + 1).toNat : Nat) : Int) := by
  have h : b.toNat < 256 := UInt8.toNat_lt b
  rw [UInt8.toNat_add]
  have : IntKind.u8.wrap (((b.toNat : Nat) : Int) + 1) = (((b.toNat : Nat) : Int) + 1) % 256 := by rw [IntKind.wrap_u8]
  rw [this]
  show _ = (((b.toNat + 1) % 256 : Nat) : Int)
  omega
theorem OwnB.max {w : World} {B : Nat} {v : Value} {xs : List UInt8} (h : OwnB w B v xs) : xs.length ≤ maxLen := by
  rcases h with ⟨-, rfl⟩ | ⟨g, cap, cur, fz, -, -, -, hnc, hcm, -⟩
  · exact Nat.zero_le _
  · exact Nat.le_trans hnc hcm
theorem wideO_false {o : Op} (h : wideO o = false) : o.name.size ≤ 60 ∧ o.pass.size ≤ 60 ∧ o.label.size ≤ 60 ∧ o.other.size ≤ 60 ∧ o.text.size ≤ 2010 := by
  unfold wideO at h
  simp only [Bool.or_eq_false_iff, decide_eq_false_iff_not] at h
  omega
/-- The caller's own links, of which Bodies were changed. -/
def Bumped (wd w : World) (da : Option Addr) (dc n : Nat) : Prop := ∃ zs, OwnLs w wd.heap.size da dc zs ∧ zs.length = n ∧ Ext wd w
set_option maxRecDepth 100000 in
set_option maxHeartbeats 8000000 in
theorem plays_any (oa : Option Addr) (os : List Op) (oc : Nat) (w : World) (hx : Ops w oa os) (hl1 : os.length ≤ 9223372036854775807) :
    Calls Try.prog 5 #[.slice oa os.length oc] w (Ret (.bool true) w) := by
  have HX := Lib.hid hx
  have hwd := fun W (e : Ext w W) => wide_any oa os oc W (hx.ext e) hl1
  obtain ⟨n, hn⟩ : ∃ n, n = os.length := ⟨_, rfl⟩
  obtain ⟨q1, hq1⟩ : ∃ q, q = wideB os := ⟨_, rfl⟩
  have HN := Lib.hid hn; have HQ1 := Lib.hid hq1
  rw [← hn, ← hq1] at hwd
  rw [← hn] at hl1 ⊢
  have HW := Lib.hid hwd
  clear hx hn hq1 hwd
  go_enter Try.func5, Try.ntmps5
  go_wp2_with (fail)
  (with_reducible refine (HW.out _ (Ext.refl _)).mono ?_); rintro e w1 ⟨rfl, he1⟩
  cases q1
  · have hb1 := wideB_false HQ1.out.symm
    rw [← HN.out] at hb1
    have hn25 := hb1.1
    have HB1 := Lib.hid hb1
    clear hb1 hl1 HW
    go_wp2_with (fail)
    (with_reducible refine (new_f _).mono ?_); rintro e w2 ⟨b, rfl, hv⟩
    have HE1 := Lib.hid he1; have HV := Lib.hid hv
    clear he1 hv
    go_upto_region 4 with fail
    generalize hw3 : World.alloc w2 _ = w3
    obtain ⟨he3, o4, hs3⟩ := alloc1 hw3
    have hpr : PR w1 w3 b PV.new PV.new none [] w2.heap.size := by
      obtain ⟨F, A, h1, h2, h3, h4⟩ := HV.out
      have hlt := h1.lt
      exact ⟨F, A, h1.ext he3, ⟨⟨.inl rfl, fun i hi => by simp at hi⟩, fun i hi => by simp at hi, rfl, .new⟩, ⟨fun h => absurd rfl h, fun y hy => by simp at hy⟩, h2.trans he3, h3, h4, h2.size, by omega, fun q => by have := hlt.1 _ q; omega, fun q => by have := hlt.2 _ q; omega⟩
    have HPR := Lib.hid hpr; have H4 := Lib.hid o4
    clear hw3 he3 o4 hpr hs3 HV
    obtain ⟨x4, hx4⟩ : ∃ x4, x4 = w2.heap.size := ⟨_, rfl⟩
    rw [← hx4] at HPR H4 ⊢
    clear hx4
    go_wp2_with (fail)
    go_loopw [5] (fun i wr => ∃ k : Nat, k ≤ n ∧ i = .int .i64 k ∧ Hid (∃ al xs c, PR w1 wr b (playsS PV.new (os.take k)) (playsS PV.new (os.take k)) al xs x4 ∧ wr.heap[x4]? = some (.cells #[.bool false, .slice al xs.length c] 40 (0, 0)))) (fun i _ => n - (intOf i).toNat)
    case atStart => exact ⟨0, Nat.zero_le _, rfl, none, [], 0, HPR.out, H4.out⟩
    case round =>
      obtain ⟨k, hk, rfl, hp⟩ := hrel
      obtain ⟨al, xs, c, hpr, hb4⟩ := hp.out
      clear hp
      by_cases hlt : k < n
      · have hlx : k < os.length := by rw [← HN.out]; exact hlt
        obtain ⟨ob, oo, rfl, hc⟩ := HX.out.at k hlx
        have hst := playsS_take PV.new os k hlx
        have hok := HX.out.2 k hlx
        have hwo := wideO_false (HB1.out.2 k hlt)
        have hg := Good.new.plays (os.take k)
        generalize playsS PV.new (os.take k) = S at *
        generalize oth os k = x at *
        have hE := HE1.out.trans hpr.old
        have HC : Hid (∀ W, Ext wr W → OpC W ob (oo + k * 9) x) := fun W e => hc W (hE.trans e)
        have hpl := hpr.play hg x hok
        obtain ⟨c0, c1, c2, c3, c4, c5, c6, c7, c8⟩ := HC.out wr (Ext.refl _)
        have HST := Lib.hid hst; have HG := Lib.hid hg; have HOK := Lib.hid hok; have HWO := Lib.hid hwo; have HPL := Lib.hid hpl; have HB4 := Lib.hid hb4; have HCC := Lib.hid hc
        have hi0 : (0 : Int) ≤ (k : Int) := by omega
        have hi1 : (k : Int) < (n : Int) := by omega
        clear hst hg hok hwo hpl hb4 hc hE HC
        go_wp2_with (fail)
        (with_reducible refine HPL.out.mono ?_); rintro e w4 ⟨pa, pc, rfl, hp4, hown, hx4⟩
        have hb4 := hx4.trans HB4.out
        have HP4 := Lib.hid hp4; have HB4 := Lib.hid hb4; have HPE := Lib.hid (OwnE.ents hown)
        clear hp4 hown hx4 hb4 c0 c1 c2 c3 c4 c5 c6 c7 c8 hpr HPL
        go_upto_region 8 with fail
        generalize hw5 : World.alloc w4 _ = w5
        obtain ⟨he5, o6, hs5⟩ := alloc1 hw5
        have H6 := Lib.hid o6
        have HP5 := Lib.hid (HP4.out.ext he5)
        have H4 : Hid (w5.heap[x4]? = some (.cells #[.bool false, .slice al xs.length c] 40 (0, 0))) := he5.block HB4.out
        have HPE5 := Lib.hid (HPE.out.ext he5)
        have HB0 : Hid (Ext w w5) := HE1.out.trans HP5.out.old
        have hk0 := hi0; have hk1 := hi1
        have HT : Hid (∀ W, Ext w5 W → Calls Try.prog 23 #[.agg #[.bool false, .slice al xs.length c], opval x] W (RetTold S al xs x W)) := fun W e => by
          have h := HWO.out
          exact told_any S al xs c x W (HP5.out.ref.ext e) HOK.out (by omega) (by omega) (by omega) (by omega) (by omega)
        clear hw5 he5 o6 hs5 HP4 HB4 HPE
        refine l5_8 HB0 hk0 hk1 H4 HCC HT _ (by rfl) rfl rfl rfl ?_
        intro vs w9 ls9 hl9 hJ9 e0 e1 e2 e3 e4 e5 e6 e7 e8 e9 e10
        simp only [Act.put, List.setIfInBounds_toArray, List.set_cons_zero, List.set_cons_succ]
        rw [e0, e1, e2, e3, e4]
        have q5 := hl9 5 (by omega); have q6 := hl9 6 (by omega); have q7 := hl9 7 (by omega); have q8 := hl9 8 (by omega); have q9 := hl9 9 (by omega); have q10 := hl9 10 (by omega); have q11 := hl9 11 (by omega); have q12 := hl9 12 (by omega)
        obtain ⟨na, nc, ys, la, lc, k5, hr9, hgr, hen⟩ := hJ9.a5 q5
        obtain ⟨g7, k9, g7b, g7c⟩ := hJ9.a9 q9
        obtain ⟨g8, k10, g8b, g8c⟩ := hJ9.a10 q10
        have k7 : vs 7 = rv false na ys.length nc := by rw [(hJ9.a7 q7).2, k5]; rfl
        have k8 : vs 8 = resval (playR S x) la lc := by rw [(hJ9.a8 q8).2, k5]; rfl
        rw [q11, cond_true, k7] at g7c
        rw [q12, cond_true, k8] at g8c
        have g7c : w9.heap[g7]? = some (.cells #[.bool false, .slice na ys.length nc] 40 (0, 0)) := g7c
        have g8c : w9.heap[g8]? = some (.cells #[.int .i64 (playR S x).num, .string (playR S x).text, .slice la (playR S x).list.length lc, .int .i64 (playR S x).err] 44 (0, 0)) := g8c
        have hx9 := hJ9.x
        rw [k9, k10]
        have H6' := Lib.hid (hx9.block H6.out)
        have H4' := Lib.hid (hx9.block H4.out)
        have hp9 := HP5.out.moved hx9 hr9 hgr
        have HP9 := Lib.hid hp9; have HEN9 := Lib.hid hen; have HPE9 := Lib.hid (HPE5.out.ext hx9); have HG7 := Lib.hid g7c; have HG8 := Lib.hid g8c
        obtain ⟨L9, hL9⟩ : ∃ L, L = ys.length := ⟨_, rfl⟩
        rw [← hL9] at HG7
        have HL9 := Lib.hid hL9
        have g7ne : g7 ≠ x4 := by
          obtain ⟨F, A, h1, h2, h3, h4, h5, h6, h7, h8, h9⟩ := HP5.out
          omega
        clear hJ9 hl9 e0 e1 e2 e3 e4 e5 e6 e7 e8 e9 e10 q5 q6 q7 q8 q9 q10 q11 q12 hr9 hgr hen g7b g7c g8b g8c hx9 hp9 H6 H4 HB0 HT HP5 HPE5 k9 k10 k5 k7 k8 hL9
        obtain ⟨y0, y1⟩ := obj_cells2 HG7.out
        obtain ⟨z0, z1⟩ := obj_cells2 H4'.out
        have f4 := obj_free H4'.out
        have E9 := Ext.refl w9
        go_upto_region 10 with fail
        have hx4 := set2_blk (u' := .bool false) (v' := .slice na L9 nc) H4'.out
        have hno := no8_40 H4'.out
        have hoff := set2_off w9 x4 (.bool false) (.slice na L9 nc)
        have hx4w : w1.heap.size ≤ x4 := by obtain ⟨F, A, h1, h2, h3, h4, h5, h6, h7, h8, h9⟩ := HP9.out; exact h7
        have hp10 := HP9.out.setX hno (set2_ext HP9.out.old hx4w (.bool false) (.slice na L9 nc)) (by simp [World.setCell]) hoff
        have hs10 : ∀ g cs T, g ≠ x4 → w9.heap[g]? = some (.cells cs T (0, 0)) → ((w9.setCell ⟨x4, 0, none⟩ (.bool false)).setCell ⟨x4, 1, none⟩ (.slice na L9 nc)).heap[g]? = some (.cells cs T (0, 0)) := fun g cs T q h => (hoff g q).trans h
        have hne6 : w4.heap.size ≠ x4 := by
          rintro e
          have h6 := H6'.out
          rw [e, H4'.out] at h6
          simp only [Option.some.injEq, Obj.cells.injEq] at h6
          exact absurd h6.2.1 (by decide)
        have hne8 : g8 ≠ x4 := by
          rintro e
          have h8 := HG8.out
          rw [e, H4'.out] at h8
          simp only [Option.some.injEq, Obj.cells.injEq] at h8
          exact absurd h8.2.1 (by decide)
        have h6n := hs10 _ _ _ hne6 H6'.out
        have h8n := hs10 _ _ _ hne8 HG8.out
        have en1 := HEN9.out.off H4'.out (by simp) hoff
        have en2 := HPE9.out.off H4'.out (by simp) hoff
        have HX4 := Lib.hid hx4; have HP10 := Lib.hid hp10; have H6N := Lib.hid h6n; have H8N := Lib.hid h8n; have EN1 := Lib.hid en1; have EN2 := Lib.hid en2
        clear hx4 hno hoff hx4w hp10 hs10 hne6 hne8 h6n h8n en1 en2 y0 y1 z0 z1 f4 E9 H6' H4' HP9 HEN9 HPE9 HG7 HG8
        generalize World.setCell (World.setCell w9 _ _) _ _ = w10 at *
        obtain ⟨a0, a1, a2, a3⟩ := obj_cells4 H6N.out
        obtain ⟨b0, b1, b2, b3⟩ := obj_cells4 H8N.out
        obtain ⟨z0, z1⟩ := obj_cells2 HX4.out
        have E10 := Ext.refl w10
        have hsm := same_any (playR S x) pa la pc lc w10 EN2.out EN1.out (by have := playR_len HG.out x; omega)
        have HSM := Lib.hid hsm
        clear hsm
        go_wp2_with (fail)
        (with_reducible refine HSM.out.mono ?_); rintro e w11 ⟨rfl, he11⟩
        have z0 := fun W (e : Ext w11 W) => z0 W (he11.trans e)
        have z1 := fun W (e : Ext w11 W) => z1 W (he11.trans e)
        have E11 := Ext.refl w11
        have hp11 := HP10.out.ext he11
        have hdy := hp11.ref.day false nc w11 (Ext.refl _)
        rw [← HL9.out] at hdy
        have HDY := Lib.hid hdy; have HP11 := Lib.hid hp11
        clear a0 a1 a2 a3 b0 b1 b2 b3 E10 HSM hdy hp11 EN1 EN2 H6N H8N
        obtain ⟨dy, hdy⟩ : ∃ dy, dy = (playS S x).day := ⟨_, rfl⟩
        obtain ⟨ad, had⟩ : ∃ ad, ad = (playS S x).adv := ⟨_, rfl⟩
        rw [← hdy, ← had] at HDY
        have HDD := Lib.hid hdy
        clear hdy had
        go_wp2_with (fail)
        (with_reducible refine HDY.out.mono ?_); rintro e w12 ⟨rfl, he12⟩
        have hp12 := HP11.out.ext he12
        have hd12 := day_f hp12.fresh
        rw [← HDD.out] at hd12
        have HD12 := Lib.hid hd12; have HP12 := Lib.hid hp12
        have HX12 := Lib.hid ((he11.trans he12).block HX4.out)
        clear z0 z1 E11 hp12 hd12 he11 he12 HDY HP11
        go_wp2_with (fail)
        (with_reducible refine HD12.out.mono ?_); rintro e w13 ⟨rfl, he13⟩
        have hp13 := HP12.out.ext he13
        rw [← HST.out] at hp13
        have HP13 := Lib.hid hp13
        have HX13 := Lib.hid (he13.block HX12.out)
        clear hp13 he13 HD12
        go_wp2_with (fail)
        go_roundw
        case rel => exact ⟨k + 1, by omega, by go_num, na, ys, nc, HP13.out, by rw [← HL9.out]; exact HX13.out⟩
        case measure => simp [intOf]; omega
      · obtain rfl : k = n := by omega
        obtain ⟨wd, rfl⟩ : ∃ wd : World, wd = wr := ⟨_, rfl⟩
        have hg := Good.new.plays os
        rw [List.take_of_length_le (by rw [← HN.out]; exact Nat.le_refl _)] at hpr
        generalize playsS PV.new os = S at *
        have hdm := dump_f hpr.fresh hg
        have HDM := Lib.hid hdm; have HG := Lib.hid hg; have HPR2 := Lib.hid hpr; have HB4 := Lib.hid hb4
        clear hdm hg hpr hb4
        go_wp2_with (fail)
        (with_reducible refine HDM.out.mono ?_); rintro e w4 ⟨da, dc, ds, rfl, he4, hds, hown⟩
        have hp4 := HPR2.out.ext he4
        have hb4 := he4.block HB4.out
        have hlk := hown.links
        obtain ⟨hok, hdl⟩ := dump_lks (w' := w4) (a := da) (c := dc) HPR2.out.fresh HG.out hds
        have hrl := hp4.ref.len
        have hsl := sameLinks_any da al ds xs dc c w4 hlk hp4.ref.lk (by rw [hds, hp4.ref.ch]) hok (by omega)
        have hck := fun W (e : Ext w4 W) => check_any da ds dc W (hlk.ext e) hok (by omega)
        rw [hds, HG.out.check] at hck
        obtain ⟨m, hm⟩ : ∃ m, m = ds.length := ⟨_, rfl⟩
        have hm2 : m ≤ 14420 := by omega
        rw [← hm] at hsl hck ⊢
        have hbp : Bumped wd w4 da dc m := ⟨ds, hown, hm.symm, he4⟩
        obtain ⟨z0, z1⟩ := obj_cells2 hb4
        have E4 := Ext.refl w4
        have HSL := Lib.hid hsl; have HCK := Lib.hid hck; have HBP := Lib.hid hbp
        clear hds hown hp4 hb4 hlk hok hdl hrl hsl hck hm hbp he4 HDM HPR
        go_wp2_with (fail)
        (with_reducible refine HSL.out.mono ?_); rintro e w5 ⟨rfl, he5⟩
        have HBP5 : Hid (Bumped wd w5 da dc m) := by
          obtain ⟨zs, q1, q2, q3⟩ := HBP.out
          exact ⟨zs, q1.ext he5, q2, q3.trans he5⟩
        have hck5 := Lib.hid (HCK.out w5 he5)
        clear z0 z1 E4 HSL HCK HBP he5
        go_wp2_with (fail)
        (with_reducible refine hck5.out.mono ?_); rintro e w6 ⟨rfl, he6⟩
        have HBP6 : Hid (Bumped wd w6 da dc m) := by
          obtain ⟨zs, q1, q2, q3⟩ := HBP5.out
          exact ⟨zs, q1.ext he6, q2, q3.trans he6⟩
        clear hck5 HBP5 he6
        go_wp2_with (fail)
        go_loopw [12] (fun i wz => ∃ q : Nat, q ≤ m ∧ i = .int .i64 q ∧ Hid (Bumped wd wz da dc m)) (fun i _ => m - (intOf i).toNat)
        case atStart => exact ⟨0, Nat.zero_le _, rfl, HBP6.out⟩
        case round =>
          obtain ⟨q, hq, rfl, hbz⟩ := hrel
          obtain ⟨wz, rfl⟩ : ∃ wz : World, wz = wr := ⟨_, rfl⟩
          by_cases hlt2 : q < m
          · obtain ⟨zs, hz1, hz2, hz3⟩ := hbz.out
            obtain ⟨gd, hda, hgb⟩ := hz1.head (by omega)
            subst hda
            obtain ⟨L, hL⟩ : ∃ L, L = (lth zs q).l.bo.length := ⟨_, rfl⟩
            have hLm : L ≤ 9223372036854775807 := by
              have h1 := (hz1.bod _ (List.getElem_mem (show q < zs.length by omega))).max
              rw [hL, lth_eq _ _ (by omega)]
              unfold maxLen at h1; omega
            have hst : Hid (∃ zs, OwnLs wz wd.heap.size (some ⟨gd, 0, none⟩) dc zs ∧ zs.length = m ∧ (lth zs q).l.bo.length = L ∧ Ext wd wz) := ⟨zs, hz1, hz2, hL.symm, hz3⟩
            have hj0 : (0 : Int) ≤ (q : Int) := by omega
            have hj1 : (q : Int) < (m : Int) := by omega
            clear hz1 hz2 hz3 hL hbz
            go_wp2_with (fail)
            go_loopw [13] (fun i wy => ∃ r : Nat, r ≤ L ∧ i = .int .i64 r ∧ Hid (∃ zs, OwnLs wy wd.heap.size (some ⟨gd, 0, none⟩) dc zs ∧ zs.length = m ∧ (lth zs q).l.bo.length = L ∧ Ext wd wy)) (fun i _ => L - (intOf i).toNat)
            case atStart => exact ⟨0, Nat.zero_le _, rfl, hst.out⟩
            case round =>
              obtain ⟨r, hr, rfl, hby⟩ := hrel
              obtain ⟨wy, rfl⟩ : ∃ wy : World, wy = wr := ⟨_, rfl⟩
              obtain ⟨zs, hz1, hz2, hz3, hz4⟩ := hby.out
              have hqz : q < zs.length := by omega
              have hcl := hz1.cells q hqz
              rw [lth_eq _ _ hqz] at hz3
              have c7 := fun W (e : Ext wy W) => (hcl W e).2.2.2.2.2.2.2.1
              rw [hz3] at c7
              have E0 := Ext.refl wy
              by_cases hlt3 : r < L
              · obtain ⟨gb, hgba, hgbB⟩ := hz1.body hqz (by omega)
                have hby2 := hz1.bod _ (List.getElem_mem hqz)
                rw [hgba] at hby2 c7
                have hbts := hby2.byts.1
                obtain ⟨b3, o3, hba, x0⟩ := hbts.at r (by omega)
                simp only [Option.some.injEq, Addr.mk.injEq, and_true] at hba
                obtain ⟨rfl, rfl⟩ := hba
                obtain ⟨bv, hbv⟩ : ∃ bv, bv = zs[q].l.bo.getD r 0 := ⟨_, rfl⟩
                have x1 : ∀ W, Ext wy W → W.cell? ⟨gb, 0 + r, none⟩ = some (.int .u8 ((bv.toNat : Nat) : Int)) := fun W e => by rw [hbv]; exact x0 W e
                have hfz : wy.frozen? ⟨gb, 0 + r, none⟩ = false := by rw [Nat.zero_add]; exact hby2.free r (by omega)
                have hwr := wrap_u8 bv
                rw [IntKind.wrap_u8] at hwr
                have HWR := Lib.hid hwr
                clear hwr
                have hset := hz1.setB hqz hgba (by omega : r < zs[q].l.bo.length) (bv + 1)
                have hxs := hz4.set (p := ⟨gb, r, none⟩) hgbB (.int .u8 (((bv + 1).toNat : Nat) : Int))
                have hnew : Hid (∃ zs, OwnLs (wy.setCell ⟨gb, r, none⟩ (.int .u8 (((bv + 1).toNat : Nat) : Int))) wd.heap.size (some ⟨gd, 0, none⟩) dc zs ∧ zs.length = m ∧ (lth zs q).l.bo.length = L ∧ Ext wd (wy.setCell ⟨gb, r, none⟩ (.int .u8 (((bv + 1).toNat : Nat) : Int)))) := ⟨_, hset, by rw [List.length_set]; exact hz2, by rw [lth_eq _ _ (by rw [List.length_set]; exact hqz), List.getElem_set_self]; simp only [List.length_set]; exact hz3, hxs⟩
                have hr0 : (0 : Int) ≤ (r : Int) := by omega
                have hr1 : (r : Int) < (L : Int) := by omega
                clear hcl hz1 hz2 hz3 hz4 hby2 hbts x0 hbv hset hxs hby hgba hgbB
                simp only [Nat.zero_add] at x1 hfz
                go_wp2_with (fail)
                refine ⟨⟨r + 1, by omega, by go_num, ?_⟩, by simp [intOf]; omega⟩
                rw [HWR.out]; exact hnew
              · obtain rfl : r = L := by omega
                have hnew : Hid (Bumped wd wy (some ⟨gd, 0, none⟩) dc m) := ⟨zs, hz1, hz2, hz4⟩
                clear hcl hz1 hz2 hz3 hz4 hby hst
                go_wp2_with (fail)
                go_roundw
                case rel => exact ⟨q + 1, by omega, by go_num, hnew⟩
                case measure => simp [intOf]; omega
          · obtain rfl : q = m := by omega
            have hex : Ext wd wz := by obtain ⟨zs, h1, h2, h3⟩ := hbz.out; exact h3
            have hpz := HPR2.out.ext hex
            have hbz4 := hex.block HB4.out
            have HB4 := Lib.hid hbz4
            have HDM : Hid (∀ W, Ext wz W → Calls Try.prog 27 #[ptr b] W (RetDump S.chain W)) := fun W e => dump_f (hpz.ext e).fresh HG.out
            have HSL : Hid (∀ W a' c' (zs : List Lv), Ext wz W → Links W a' zs → lks zs = S.chain → Calls Try.prog 28 #[.slice a' zs.length c', .slice al xs.length c] W (Ret (.bool true) W)) := fun W a' c' zs e hl hz => by
              have hr := (hpz.ext e).ref
              have hlen := hr.len
              have hzl : zs.length = xs.length := by rw [← lks_len, hz, ← hr.ch, lks_len]
              exact sameLinks_any a' al zs xs c' c W hl hr.lk (by rw [hz, hr.ch]) (LksOk.of hz (hpz.ext e).fresh.oks) (by omega)
            have HXX := Lib.hid ((HE1.out.trans hpz.old))
            clear hpz hbz4 hex hbz HBP6
            go_upto_region 25 with fail
            refine l5_25 HB4 HDM HSL _ (by rfl) rfl rfl ?_
            intro vs w9 ls9 hl9 hJ9 e0 e1 e2 e3 e4 e5 e6 e7 e8
            simp only [Act.put, List.setIfInBounds_toArray, List.set_cons_zero, List.set_cons_succ]
            rw [e0, e2, e3, e4, e5, e6, e7, e8]
            have hx9 := hJ9
            clear hl9 hJ9 e0 e1 e2 e3 e4 e5 e6 e7 e8
            go_wp2_with (fail)
            go_ret
            exact ⟨rfl, HXX.out.trans hx9⟩
  · clear HW hl1
    go_wp2_with (fail)
    (with_reducible refine (known_any _).mono ?_); rintro e w3 ⟨rfl, he3⟩
    go_wp2_with (fail)
    go_ret
    exact ⟨rfl, he1.trans he3⟩
end Go.Proofs.Ytlahejakcgoheaa
