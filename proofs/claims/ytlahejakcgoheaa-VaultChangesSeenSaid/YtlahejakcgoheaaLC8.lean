/-
  Walk: the law VaultChangesSeen, bytes of a Body are changed.
-/
import Derived.Test.YtlahejakcgoheaaLC7
set_option linter.unusedVariables false
set_option linter.unusedSimpArgs false
namespace Go.Proofs.Ytlahejakcgoheaa
open Go.RowKit Go.Maps
set_option maxRecDepth 100000 in
set_option maxHeartbeats 8000000 in
theorem seen_08 (ca ba : Option Addr) (xs : List Op) (bs : List UInt8) (cc bc lk at0 fd vl : Nat) (w : World) (hx : Ops w ca xs) (hb : Byts w ba bs) (hl : xs.length ≤ 9223372036854775807) (hbl : bs.length ≤ 9223372036854775807) (hlk : lk < 256) (hat : at0 < 65536) (hfd : fd = 0) (hvl : vl < 4294967296) (h7 : 7 < bs.length) :
    Calls Try.prog 8 #[.agg #[.slice ca xs.length cc, .int .u8 lk, .slice ba bs.length bc, .int .u16 at0, .int .u8 fd, .int .u32 vl]] w (Ret (.bool true) w) := by
  have HX := Lib.hid hx; have HB := Lib.hid hb; have HBL := Lib.hid hbl; have HLK := Lib.hid hlk; have HAT := Lib.hid hat; have HFD := Lib.hid hfd; have HVL := Lib.hid hvl
  have hwd := fun W (e : Ext w W) => wide_any ca xs cc W (hx.ext e) hl
  obtain ⟨n, hn⟩ : ∃ n, n = xs.length := ⟨_, rfl⟩
  obtain ⟨nb, hnb⟩ : ∃ nb, nb = bs.length := ⟨_, rfl⟩
  obtain ⟨q, hq⟩ : ∃ q, q = wideB xs := ⟨_, rfl⟩
  have HN := Lib.hid hn; have HQ := Lib.hid hq; have HNB := Lib.hid hnb
  rw [← hn, ← hq] at hwd
  rw [← hn] at hl ⊢
  rw [← hnb]
  rw [← hnb] at HBL h7
  have HWD := Lib.hid hwd
  clear hx hb hn hq hwd hnb hbl hlk hat hfd hvl
  go_enter Try.func8, Try.ntmps8
  go_upto_region 1 with fail
  generalize hw1 : World.alloc _ _ = w1
  obtain ⟨he, o1, -⟩ := alloc1 hw1
  obtain ⟨a0, a1, a2, a3, a4, a5⟩ := obj_cells6 o1
  have HA0 := Lib.hid a0; have HA1 := Lib.hid a1; have HA2 := Lib.hid a2; have HA3 := Lib.hid a3; have HA4 := Lib.hid a4; have HA5 := Lib.hid a5
  clear hw1 o1 a1 a2 a3 a4 a5
  have E1 := Ext.refl w1
  go_wp2_with (fail)
  (with_reducible refine (HWD.out _ he).mono ?_); rintro e w2 ⟨rfl, he2⟩
  clear HWD E1 a0
  have HE := Lib.hid he; have HE12 := Lib.hid he2
  clear he he2
  cases q
  · have hwf := wideB_false HQ.out.symm
    rw [← HN.out] at hwf
    have hn25 := hwf.1
    have HWF := Lib.hid hwf.2
    clear hwf hl
    go_wp2_with (fail)
    (with_reducible refine (new_f _).mono ?_); rintro e w3 ⟨b, rfl, hv⟩
    have hmm := @run_makeMap Try.prog
    have HV := Lib.hid hv
    clear hv
    go_upto_region 5 with fail
    generalize hw4 : World.alloc _ _ = w4
    have hvm := VM.of HV.out hw4.symm
    obtain ⟨g, hg⟩ : ∃ g, g = w3.heap.size := ⟨_, rfl⟩
    rw [← hg] at hvm ⊢
    have HVM := Lib.hid hvm
    clear hw4 hvm hmm hg HV
    go_wp2_with (fail)
    go_loopw [5] (fun i wr => ∃ k : Nat, k ≤ n ∧ i = .int .i64 k ∧ Hid (∃ S P B, VM w2 wr b g S P B ∧ Good S ∧ PI S P ∧ P.length ≤ k ∧ ∀ q ∈ P, q.2.size ≤ maxLen)) (fun i _ => n - (intOf i).toNat)
    case atStart => exact ⟨0, Nat.zero_le _, rfl, ⟨_, _, _, HVM.out, Good.new, PI.new, Nat.le_refl _, by simp⟩⟩
    case round =>
      obtain ⟨k, hk, rfl, hh⟩ := hrel
      obtain ⟨S, P, B, hvm, hgs, hpi, hpl, hps⟩ := hh.out
      have HEr := Lib.hid (HE12.out.trans hvm.old)
      have HVMr := Lib.hid hvm; have HGS := Lib.hid hgs; have HPI := Lib.hid hpi; have HPL := Lib.hid hpl; have HPS := Lib.hid hps
      have a0 := fun W (e : Ext wr W) => HA0.out W (HEr.out.trans e)
      have E0 := Ext.refl wr
      clear hh hvm hgs hpi hpl hps
      by_cases hlt : k < n
      · have hlx : k < xs.length := by rw [← HN.out]; exact hlt
        obtain ⟨ob, oo, rfl, hc⟩ := HX.out.at k hlx
        obtain ⟨c0, c1, c2, c3, c4, c5, c6, c7, c8⟩ := hc wr (HE.out.trans HEr.out)
        have hok := HX.out.2 k hlx
        have hwo := HWF.out k hlt
        generalize oth xs k = x at *
        have HOK := Lib.hid hok; have HWO := Lib.hid hwo
        clear hc hok hlx hwo
        have hi0 : (0 : Int) ≤ (k : Int) := by omega
        have hi1 : (k : Int) < (n : Int) := by omega
        go_upto_region 9 with fail
        clear c0 c1 c2 c3 c4 c5 c6 c7 c8 a0
        generalize hwa : World.alloc _ _ = wa
        obtain ⟨hea, oa, hsa⟩ := alloc1 hwa
        obtain ⟨c0, c1, c2, c3, c4, c5, c6, c7, c8⟩ := obj_cells9 oa
        have hpl := play_vm (HVMr.out.cap.ext hea) HGS.out x HOK.out
        have HPLAY := Lib.hid hpl; have HOA := Lib.hid oa; have HSA := Lib.hid hsa; have HEA := Lib.hid hea
        have Ea := Ext.refl wa
        clear hwa hpl oa hea E0 hsa
        go_wp2_with fail
        (with_reducible refine HPLAY.out.mono ?_); rintro e wb ⟨ra, rc, rfl, ht, hkp⟩
        have hbb := hkp.block wr.heap.size (Nat.le_refl _) (by rw [HSA.out]; omega)
        rw [HOA.out] at hbb
        obtain ⟨r, hr⟩ : ∃ r, r = playR S x := ⟨_, rfl⟩
        have HRR := Lib.hid hr
        rw [← hr]
        have HTb := Lib.hid ht; have HBb := Lib.hid hbb
        clear c0 c1 c2 c3 c4 c5 c6 c7 c8 Ea HPLAY ht hkp hbb hr
        go_upto_region 10 with fail
        generalize hwc : World.alloc _ _ = wc
        obtain ⟨hec, oc, hsc⟩ := alloc1 hwc
        obtain ⟨c0, c1, c2, c3, c4, c5, c6, c7, c8⟩ := obj_cells9 (hec.block HBb.out)
        obtain ⟨d0, d1, d2, d3⟩ := obj_cells4 oc
        have HTc := Lib.hid (HTb.out.ext hec)
        have Ec := Ext.refl wc
        clear hwc oc hec hsc c3 c4 c5 c6 c7 c8 d0 d1 d2
        by_cases q1 : x.kind = 1
        · have T1 : (x.kind == 1) = true := by simpa using q1
          have herr : r.err = enrolE S x.name x.pass := by rw [HRR.out]; simp [playR, q1]
          by_cases q0 : r.err = 0
          · have T2 : (r.err == 0) = true := by simpa using q0
            rw [q0] at herr
            have hst : stepP S P x = P ++ [(x.name, x.pass)] := by unfold stepP; rw [if_pos ⟨q1, herr.symm⟩]
            have hpi2 := HPI.out.play x HWO.out
            rw [hst] at hpi2
            have hfree : ∀ q ∈ P, q.1 ≠ x.name := fun q hq e => by
              have h1 : (S.find x.name).isSome = true := by
                rw [find_isSome, HPI.out.ids, List.any_eq_true]
                exact ⟨_, List.mem_map.2 ⟨q, hq, rfl⟩, by simpa using e⟩
              have h2 := herr.symm
              unfold enrolE at h2
              rw [h1] at h2
              split at h2
              · cases h2
              · simp at h2
            have hup := run_mapW (HTc.out.store x.name x.pass HOK.out.nm hfree (by have := HPL.out; omega))
            have hup1 := hup.1
            have HU := Lib.hid hup.2; have HPI2 := Lib.hid hpi2
            clear hup hfree hst hpi2 herr
            go_upto_region 7 with fail
            generalize mapW _ _ _ _ _ = wd at *
            clear hup1 c0 c1 c2 d3 Ec
            go_wp2_with (fail)
            go_roundw
            case rel => exact ⟨k + 1, by omega, by go_num, ⟨_, _, _, HU.out, HGS.out.play x, HPI2.out, by rw [List.length_append]; simp; exact HPL.out, by intro q hq; rcases List.mem_append.1 hq with hq | hq; (· exact HPS.out q hq); (· obtain rfl := List.mem_singleton.1 hq; exact HOK.out.ps)⟩⟩
            case measure => simp [intOf]; omega
          · have T2 : (r.err == 0) = false := by simpa using q0
            have hst : stepP S P x = P := by unfold stepP; rw [if_neg (fun q => q0 (by rw [herr]; exact q.2))]
            have hpi2 := HPI.out.play x HWO.out
            rw [hst] at hpi2
            have HPI2 := Lib.hid hpi2
            clear hst hpi2 herr
            go_wp2_with (fail)
            go_roundw
            case rel => exact ⟨k + 1, by omega, by go_num, ⟨_, _, _, HTc.out, HGS.out.play x, HPI2.out, by have := HPL.out; omega, HPS.out⟩⟩
            case measure => simp [intOf]; omega
        · have T1 : (x.kind == 1) = false := by simpa using q1
          have hst : stepP S P x = P := by unfold stepP; rw [if_neg (fun q => q1 q.1)]
          have hpi2 := HPI.out.play x HWO.out
          rw [hst] at hpi2
          have HPI2 := Lib.hid hpi2
          clear hst hpi2
          go_wp2_with (fail)
          go_roundw
          case rel => exact ⟨k + 1, by omega, by go_num, ⟨_, _, _, HTc.out, HGS.out.play x, HPI2.out, by have := HPL.out; omega, HPS.out⟩⟩
          case measure => simp [intOf]; omega
      · obtain rfl : k = n := by omega
        have hdm := dump_f HVMr.out.fresh HGS.out
        have HDM := Lib.hid hdm
        have hsh := HGS.out.inv.short
        have hoks := HVMr.out.fresh.oks
        have HOKS := Lib.hid hoks; have HSH := Lib.hid hsh
        clear hdm hsh hoks HPL
        go_wp2_with (fail)
        (with_reducible refine HDM.out.mono ?_); rintro e w5 ⟨da, dc, ds, rfl, he5, hds, hown⟩
        have HVM5 := Lib.hid (HVMr.out.ext he5)
        have HE5 := Lib.hid (HEr.out.trans he5)
        have HDE := Lib.hid he5
        have HDS := Lib.hid hds; have HOW := Lib.hid hown
        have hmlen : ds.length = S.chain.length := by rw [← lks_len, hds]
        obtain ⟨m, hm⟩ : ∃ m, m = ds.length := ⟨_, rfl⟩
        rw [← hm]
        have hm2 : m ≤ 14420 := by rw [hm, hmlen]; exact HSH.out
        have HM := Lib.hid hm; have HML := Lib.hid hmlen
        clear hds hown hm hmlen HDM he5 a0 E0
        by_cases hz : m = 0
        · subst hz
          go_wp2_with (fail)
          (with_reducible refine (known_any _).mono ?_); rintro e w6 ⟨rfl, he6⟩
          go_wp2_with (fail)
          go_ret
          exact ⟨rfl, (HE.out.trans HE5.out).trans he6⟩
        · have hm0 : (0 : Int) < (m : Int) := by omega
          have T0 : ((m : Int) == 0) = false := by simpa using hz
          obtain ⟨gd, hgd, hgB⟩ := HOW.out.head (by rw [← HM.out]; omega)
          subst hgd
          have E5 := Ext.refl w5
          have a0 := fun W (e : Ext w5 W) => HA0.out W (HE5.out.trans e)
          have a1 := fun W (e : Ext w5 W) => HA1.out W (HE5.out.trans e)
          have a2 := fun W (e : Ext w5 W) => HA2.out W (HE5.out.trans e)
          have a3 := fun W (e : Ext w5 W) => HA3.out W (HE5.out.trans e)
          have a4 := fun W (e : Ext w5 W) => HA4.out W (HE5.out.trans e)
          have a5 := fun W (e : Ext w5 W) => HA5.out W (HE5.out.trans e)
          obtain ⟨k, hkk⟩ : ∃ k, k = lk % m := ⟨_, rfl⟩
          have hrem : (wrap64 (lk : Int)).tmod (m : Int) = (k : Int) := by
            have e : wrap64 (lk : Int) = (lk : Int) := by have := HLK.out; unfold wrap64; omega
            rw [e, hkk]
            exact (Int.ofNat_tmod lk m).symm
          have hkm : k < m := by rw [hkk]; exact Nat.mod_lt _ (by omega)
          have hk0 : (0 : Int) ≤ (k : Int) := by omega
          have hk1 : (k : Int) < (m : Int) := by omega
          clear hkk
          go_upto_region 18 with fail
          clear hrem hm0 T0
          have hkd : k < ds.length := by rw [← HM.out]; exact hkm
          obtain ⟨x, hxx⟩ : ∃ x, x = ds[k] := ⟨_, rfl⟩
          have hcl := HOW.out.cells k hkd
          rw [← hxx] at hcl
          have HXX := Lib.hid hxx
          clear hxx
          obtain ⟨c0, c1, c2, c3, c4, c5, c6, c7, c8, c9⟩ := hcl w5 E5
          have fr : ∀ W, Ext w5 W → ∀ i, W.frozen? ⟨gd, i, none⟩ = false := fun W e i => (HOW.out.ext e).free i
          obtain ⟨wd, rfl⟩ : ∃ wd : World, wd = wr := ⟨_, rfl⟩
          have hat := HAT.out
          have hfd := HFD.out
          have t1 : ((fd : Int) == 1) = false := by simp; omega
          have t2 : ((fd : Int) == 2) = false := by simp; omega
          have t3 : ((fd : Int) == 3) = false := by simp; omega
          have t4 : ((fd : Int) == 4) = false := by simp; omega
          have t5 : ((fd : Int) == 5) = false := by simp; omega
          have HD0 : Hid (∀ W, Ext wd W → W.cell? ⟨w.heap.size, 1, none⟩ = some (.int .u8 (lk : Int))) := fun W e => HA1.out W (HEr.out.trans e)
          have HD2 : Hid (∀ W, Ext wd W → W.cell? ⟨w.heap.size, 2, none⟩ = some (.slice ba nb bc)) := fun W e => HA2.out W (HEr.out.trans e)
          have HD3 : Hid (∀ W, Ext wd W → W.cell? ⟨w.heap.size, 3, none⟩ = some (.int .u16 (at0 : Int))) := fun W e => HA3.out W (HEr.out.trans e)
          have HD4 : Hid (∀ W, Ext wd W → W.cell? ⟨w.heap.size, 4, none⟩ = some (.int .u8 (fd : Int))) := fun W e => HA4.out W (HEr.out.trans e)
          have HXD := Lib.hid (HE.out.trans HEr.out)
          have hy0 : bodyY x bs at0 0 = x := rfl
          have hown0 : OwnLs w5 wd.heap.size (some ⟨gd, 0, none⟩) dc (ds.set k (bodyY x bs at0 0)) := by
            rw [hy0, HXX.out, List.set_getElem_self]; exact HOW.out
          have HOWN0 := Lib.hid hown0; have HED := Lib.hid (HDE.out)
          clear c0 c1 c2 c3 c4 c5 c6 c7 c8 c9 hcl a0 a1 a2 a3 a5 fr hy0 hown0 hfd
          go_wp2_with (fail)
          clear t1 t2 t3 t4 t5 a4
          go_loopw [11, 12] (fun ch i wx => ∃ j : Nat, j ≤ 7 ∧ j ≤ nb ∧ i = .int .i64 j ∧ ch = .bool (chgK x.l.bo bs at0 j) ∧ Hid (Ext wd wx) ∧ Hid (OwnLs wx wd.heap.size (some ⟨gd, 0, none⟩) dc (ds.set k (bodyY x bs at0 j)))) (fun _ i _ => nb - (intOf i).toNat)
          case atStart => exact ⟨0, by omega, by omega, rfl, rfl, HED.out, HOWN0.out⟩
          case round =>
            obtain ⟨j, hj7, hjn, rfl, rfl, hex, how⟩ := hrel
            have Er := Ext.refl wr
            have a2 := fun W (e : Ext wr W) => HD2.out W (hex.out.trans e)
            have a3 := fun W (e : Ext wr W) => HD3.out W (hex.out.trans e)
            have hks : k < (ds.set k (bodyY x bs at0 j)).length := by rw [List.length_set]; exact hkd
            have hgy : (ds.set k (bodyY x bs at0 j))[k]'hks = bodyY x bs at0 j := List.getElem_set_self _
            obtain ⟨L, hL⟩ : ∃ L, L = x.l.bo.length := ⟨_, rfl⟩
            have c7 : ∀ W, Ext wr W → W.cell? ⟨gd, k * 10 + 7, none⟩ = some (.slice x.ba L x.bc) := fun W e => by
              have h1 := (how.out.cells k hks W e).2.2.2.2.2.2.2.1
              rw [hgy] at h1
              have h2 : (bodyY x bs at0 j).l.bo.length = L := by rw [hL]; exact xorK_len _ _ _ _
              rw [h2] at h1
              exact h1
            have HLL := Lib.hid hL; have HGY := Lib.hid hgy
            clear hL hgy
            by_cases hgo : j < nb ∧ j < 7
            · obtain ⟨hjb, hj6⟩ := hgo
              obtain ⟨bb, bo, rfl, hbc⟩ := HB.out.at j (by rw [← HNB.out]; exact hjb)
              have HBC : Hid (∀ W, Ext wd W → W.cell? ⟨bb, bo + j, none⟩ = some (.int .u8 (bth bs j : Int))) := fun W e => hbc W (HXD.out.trans e)
              clear hbc
              have hj0 : (0 : Int) ≤ (j : Int) := by omega
              have hj1 : (j : Int) < (nb : Int) := by omega
              obtain ⟨q, hq⟩ : ∃ q : Nat, q = at0 + j := ⟨_, rfl⟩
              have hqq : (at0 : Int) + (j : Int) = (q : Int) := by omega
              by_cases hin : q < L
              · have hq0 : (0 : Int) ≤ (q : Int) := by omega
                have hq1 : (q : Int) < (L : Int) := by omega
                have hlen : (bodyY x bs at0 j).l.bo.length = L := by rw [HLL.out]; exact xorK_len _ _ _ _
                have hbd := OwnLs.body how.out hks (by rw [HGY.out, hlen]; omega)
                rw [HGY.out] at hbd
                obtain ⟨gb, hgb, hgB2⟩ := hbd
                have hxba : x.ba = some ⟨gb, 0, none⟩ := hgb
                rw [hxba] at c7
                obtain ⟨z, hz⟩ : ∃ z : UInt8, z = (xorK x.l.bo bs at0 j).getD q 0 ^^^ bs.getD j 0 := ⟨_, rfl⟩
                have hb0 := how.out.bod _ (List.getElem_mem hks)
                rw [HGY.out, hgb] at hb0
                have HT : Hid (∀ W, Ext wr W → W.cell? ⟨gb, q, none⟩ = some (.int .u8 (bth (xorK x.l.bo bs at0 j) q : Int))) := fun W e => (hb0.ext e).cell q (by rw [hlen]; exact hin)
                have HF : Hid (∀ W, Ext wr W → W.frozen? ⟨gb, q, none⟩ = false) := fun W e => (hb0.ext e).free q (by rw [hlen]; exact hin)
                have hnew : bodyY x bs at0 (j + 1) = ⟨{ (bodyY x bs at0 j).l with bo := (bodyY x bs at0 j).l.bo.set q z }, (bodyY x bs at0 j).ba, (bodyY x bs at0 j).bc⟩ := by
                  unfold bodyY
                  simp only [Lv.mk.injEq, and_true]
                  rw [hz, hq]
                  rw [show xorK x.l.bo bs at0 (j + 1) = (xorK x.l.bo bs at0 j).set (at0 + j) ((xorK x.l.bo bs at0 j).getD (at0 + j) 0 ^^^ bs.getD j 0) by rw [xorK, if_pos (by rw [← HLL.out, ← hq]; exact hin)]]
                have HR : Hid (∀ W, Ext wr W → Ext wd (W.setCell ⟨gb, q, none⟩ (.int .u8 ((z.toNat : Nat) : Int))) ∧ OwnLs (W.setCell ⟨gb, q, none⟩ (.int .u8 ((z.toNat : Nat) : Int))) wd.heap.size (some ⟨gd, 0, none⟩) dc (ds.set k (bodyY x bs at0 (j + 1)))) := fun W e => by
                  refine ⟨(hex.out.trans e).set hgB2 _, ?_⟩
                  have h1 := OwnLs.setB (how.out.ext e) hks (gb := gb) (j := q) (by rw [HGY.out]; exact hgb) (by rw [HGY.out, hlen]; exact hin) z
                  rw [List.set_set, HGY.out, ← hnew] at h1
                  exact h1
                have HZ : Hid (bits .xor .u8 (bth (xorK x.l.bo bs at0 j) q : Int) (bth bs j : Int) = ((z.toNat : Nat) : Int)) := by
                  have := u8_xor_nat (bth (xorK x.l.bo bs at0 j) q) (bth bs j) (bth_lt _ _) (bth_lt _ _)
                  rw [Hid, this, hz, UInt8.toNat_xor]; rfl
                have hch : chgK x.l.bo bs at0 (j + 1) = (chgK x.l.bo bs at0 j || (bs.getD j 0 != 0)) := by
                  rw [chgK, decide_eq_true (show at0 + j < x.l.bo.length by rw [← HLL.out, ← hq]; exact hin)]; rfl
                have HCH := Lib.hid hch
                have H7 := Lib.hid c7
                have HGE : Hid (wd.heap.size ≤ gb) := hgB2
                clear hlen hgb hb0 hnew hz hch hq hxba
                go_upto_region 24 with fail
                refine l8_body (R := fun W => Ext wd W ∧ OwnLs W wd.heap.size (some ⟨gd, 0, none⟩) dc (ds.set k (bodyY x bs at0 (j + 1)))) hex HGE hq0 hq1 hj0 hj1 H7 HT HF HD2 HBC HR HZ _ (by rfl) rfl rfl rfl rfl ?_
                intro vs w7 ls9 hl9 hJ9 e0 e1 e2 e3 e4 e5 e6 e7 e8 e9 e10 e11 e12 e13
                simp only [Act.put, List.setIfInBounds_toArray, List.set_cons_zero, List.set_cons_succ]
                rw [e0, e1, e2, e3, e4, e5, e6, e7, e8, e9, e10, e11, e12, e13]
                have hrr := hJ9.2.2.2.2.2 (hl9 14 (by omega))
                have HE7 := Lib.hid hrr.1; have HOW7 := Lib.hid hrr.2
                clear hrr hJ9 hl9 e0 e1 e2 e3 e4 e5 e6 e7 e8 e9 e10 e11 e12 e13 a2 a3 c7 HT HF HR HZ Er hgB2
                have E7 := Ext.refl w7
                have a2 := fun W (e : Ext w7 W) => HD2.out W (HE7.out.trans e)
                have cb := HBC.out w7 HE7.out
                cases hc : chgK x.l.bo bs at0 j
                · cases T5 : ((bth bs j : Int) != 0)
                  · have hn : Hid (chgK x.l.bo bs at0 (j + 1) = false) := by
                      rw [Hid, HCH.out, hc, bth_z T5]; rfl
                    go_wp2_with (fail)
                    go_roundw
                    case rel => exact ⟨j + 1, by omega, by omega, by go_num, by rw [hn.out], HE7, HOW7⟩
                    case measure => simp [intOf]; omega
                  · have hn : Hid (chgK x.l.bo bs at0 (j + 1) = true) := by
                      rw [Hid, HCH.out, hc, bth_nz T5]; rfl
                    go_wp2_with (fail)
                    go_roundw
                    case rel => exact ⟨j + 1, by omega, by omega, by go_num, by rw [hn.out], HE7, HOW7⟩
                    case measure => simp [intOf]; omega
                · have hn : Hid (chgK x.l.bo bs at0 (j + 1) = true) := by
                    rw [Hid, HCH.out, hc]; rfl
                  go_wp2_with (fail)
                  go_roundw
                  case rel => exact ⟨j + 1, by omega, by omega, by go_num, by rw [hn.out], HE7, HOW7⟩
                  case measure => simp [intOf]; omega
              · have hsame : Hid (chgK x.l.bo bs at0 (j + 1) = chgK x.l.bo bs at0 j ∧ bodyY x bs at0 (j + 1) = bodyY x bs at0 j) := by
                  have h1 : ¬ at0 + j < x.l.bo.length := by rw [← HLL.out, ← hq]; exact hin
                  refine ⟨by simp [chgK, h1], ?_⟩
                  unfold bodyY
                  rw [show xorK x.l.bo bs at0 (j + 1) = xorK x.l.bo bs at0 j by rw [xorK, if_neg h1]]
                have hin1 : ¬ (q : Int) < (L : Int) := by omega
                clear hq
                go_wp2_with (fail)
                go_roundw
                case rel => exact ⟨j + 1, by omega, by omega, by go_num, by rw [hsame.out.1], hex, by rw [hsame.out.2]; exact how⟩
                case measure => simp [intOf]; omega
            · have hstop : ¬ (j : Int) < (nb : Int) ∨ ((j : Int) < (nb : Int) ∧ ¬ (j : Int) < 7) := by omega
              have c7h := Lib.hid c7
              clear hgo c7 a3
              have hs1 : (j : Int) < (nb : Int) := by omega
              have hs2 : ¬ (j : Int) < 7 := by omega
              clear hstop
              first
              | skip
                go_upto_region 41 with fail
                clear a2 Er
                obtain ⟨y, hy⟩ : ∃ y, y = bodyY x bs at0 j := ⟨_, rfl⟩
                rw [← hy] at how
                have hyl : y.l = { x.l with bo := xorK x.l.bo bs at0 j } := by rw [hy]; rfl
                obtain ⟨qd, hqd⟩ : ∃ qd, qd = chgK x.l.bo bs at0 j := ⟨_, rfl⟩
                rw [← hqd]
                have hlk : (ds.set k y).length = m := by rw [List.length_set, ← HM.out]
                have hlks : lks (ds.set k y) = S.chain.set k y.l := by rw [← HDS.out]; simp [lks]
                have hkS : k < S.chain.length := by rw [← HML.out, ← HM.out]; exact hkm
                have hxS : x.l = S.chain[k] := by
                  have h1 : (lks ds)[k]? = some x.l := by rw [HXX.out]; simp [lks, hkd]
                  rw [HDS.out, List.getElem?_eq_getElem hkS] at h1
                  exact (Option.some.inj h1).symm
                have hxm : x.l ∈ S.chain := by rw [hxS]; exact List.getElem_mem _
                have hsm := HGS.out.sm x.l hxm
                have hok := HOKS.out x.l hxm
                have hck0 := HGS.out.check
                have hch := checkI_at S.chain 7 0 k hck0 hkS
                rw [← hxS] at hch
                have hoyl : LkOk y.l := by
                  rw [hyl]; exact ⟨hok.op, hok.cu, hok.ki, hok.nu0, hok.nu1, hok.ve0, hok.ve1, hok.da0, hok.da1, hok.un0, hok.un1, by show (xorK x.l.bo bs at0 j).length ≤ _; rw [xorK_len]; exact hok.bo, hok.tag, hok.ch⟩
                have hoyS : ∀ l ∈ S.chain.set k y.l, LkOk l := fun l hl => by
                  rcases List.mem_or_eq_of_mem_set hl with hl | rfl
                  · exact HOKS.out l hl
                  · exact hoyl
                have hoky : LksOk (ds.set k y) := LksOk.of hlks hoyS
                have hck := check_any (some ⟨gd, 0, none⟩) (ds.set k y) dc wr how.out.links hoky (by rw [hlk]; omega)
                rw [hlk, hlks] at hck
                obtain ⟨ci, hci⟩ : ∃ ci, ci = checkI 7 0 (S.chain.set k y.l) := ⟨_, rfl⟩
                rw [← hci] at hck
                have HCI := Lib.hid hci
                have HCK := Lib.hid hck
                have hbo := chain_bo (b := lastB 7 (S.chain.take k)) (l := x.l) hok.op bs at0 j hj7
                rw [← hyl, ← hqd] at hbo
                have hych : y.l.ch = x.l.ch := by rw [hyl]
                have hset : qd = true → ci = (k : Int) := fun q => by
                  rw [hci, checkI_set S.chain y.l 7 0 k hck0 hkS, Nat.zero_add]
                  rw [hych, ← hch]
                  exact hbo.2 q
                have hun : qd = false → ci = -1 := fun q => by
                  rw [hci]
                  refine checkI_set_eq S.chain y.l 7 0 k hck0 hkS (by rw [← hxS]; exact hych) ?_
                  rw [hych, ← hch]
                  exact Decidable.byContradiction fun e => by have := hbo.1 e; rw [q] at this; cases this
                have HSET := Lib.hid hset; have HUN := Lib.hid hun; have HQD := Lib.hid hqd; have HOW7 := Lib.hid how.out; have HKS := Lib.hid hkS; have HXS := Lib.hid hxS; have HYL := Lib.hid hyl; have HLK := Lib.hid hlk; have HLKS := Lib.hid hlks; have HOYS := Lib.hid hoyS; have HOK := Lib.hid hok
                have E7 := Ext.refl wr
                clear hlk hlks hxS hxm hsm hok hck0 hch hoky hck hci hset hun hy hbo hych hoyl hyl hqd hoyS
                cases qd
                · have hc1 := HUN.out rfl
                  subst hc1
                  go_wp2_with (fail)
                  (with_reducible refine HCK.out.mono ?_); rintro e w8 ⟨rfl, he8⟩
                  have HE8 := Lib.hid (hex.out.trans he8)
                  clear HCK he8
                  go_wp2_with (fail)
                  (with_reducible refine (known_any _).mono ?_); rintro e w9 ⟨rfl, he9⟩
                  go_wp2_with (fail)
                  go_ret
                  exact ⟨rfl, (HXD.out.trans HE8.out).trans he9⟩
                · have hc1 := HSET.out rfl
                  subst hc1
                  have d1 : (fd : Int) = 0 := by rw [HFD.out]; rfl
                  have d2 : decide ((1 : Int) ≤ (fd : Int)) = false := by rw [d1]; rfl
                  go_wp2_with (fail)
                  (with_reducible refine HCK.out.mono ?_); rintro e w8 ⟨rfl, he8⟩
                  have HE8 := Lib.hid (hex.out.trans he8)
                  have a4 := fun W (e : Ext w8 W) => HD4.out W (HE8.out.trans e)
                  have how8 := HOW7.out.ext he8
                  have hks2 : k < (ds.set k y).length := by rw [List.length_set]; exact hkd
                  have hcl := how8.cells k hks2
                  have hgy : (ds.set k y)[k]'hks2 = y := List.getElem_set_self _
                  rw [hgy] at hcl
                  have c0 := fun W (e : Ext w8 W) => (hcl W e).1
                  have hop : y.l.op = x.l.op := by rw [HYL.out]
                  rw [hop] at c0
                  have HOW8 := Lib.hid how8
                  have E8 := Ext.refl w8
                  clear HCK he8 hcl how8 hgy hop how HOW7
                  have hk34 : Hid (((x.l.op : Int) != 3) = false ∨ ((x.l.op : Int) != 4) = false → x.l.op = 3 ∨ x.l.op = 4) := fun h => by
                    rcases h with h | h
                    · left; rw [bne_eq_false_iff_eq] at h; omega
                    · right; rw [bne_eq_false_iff_eq] at h; omega
                  first
                  | skip
                    cases T3 : ((x.l.op : Int) != 3)
                    rotate_left
                    cases T4 : ((x.l.op : Int) != 4)
                    rotate_left
                    · clear hk34
                      go_wp2_with (fail)
                      (with_reducible refine (known_any _).mono ?_); rintro e w9 ⟨rfl, he9⟩
                      go_wp2_with (fail)
                      go_ret
                      exact ⟨rfl, (HXD.out.trans HE8.out).trans he9⟩
                    all_goals
                      have h34 : Hid (x.l.op = 3 ∨ x.l.op = 4) := hk34.out (by first | exact .inl T3 | exact .inr T4)
                      clear hk34
                      obtain ⟨L', hL'⟩ : ∃ L' : List Lk, L' = S.chain.set k y.l := ⟨_, rfl⟩
                      have HL' := Lib.hid hL'
                      have hLm : L'.length = m := by rw [hL', ← HLKS.out, lks_len]; exact HLK.out
                      have hLok : ∀ l ∈ L', LkOk l := by rw [hL']; exact HOYS.out
                      have HLM := Lib.hid hLm; have HLOK := Lib.hid hLok
                      have hst : Hid (∃ ys, OwnLs w8 wd.heap.size (some ⟨gd, 0, none⟩) dc ys ∧ lks ys = reTo L' 0 ∧ LksOk ys) := ⟨_, HOW8.out, by rw [reTo_0, HLKS.out, HL'.out], LksOk.of HLKS.out HOYS.out⟩
                      clear hL' hLm hLok HOW8
                      go_wp2_with (fail)
                      clear c0 a4 E8
                      go_loopw [15, 16] (fun bf i wx => ∃ j bq : Nat, j ≤ m ∧ i = .int .i64 j ∧ bf = .int .u64 bq ∧ Hid (bq < 18446744073709551616 ∧ bq = lastB 7 ((reCh 7 L').take j)) ∧ Hid (Ext wd wx) ∧ Hid (∃ ys, OwnLs wx wd.heap.size (some ⟨gd, 0, none⟩) dc ys ∧ lks ys = reTo L' j ∧ LksOk ys)) (fun _ i _ => m - (intOf i).toNat)
                      case atStart => exact ⟨0, 7, by omega, rfl, rfl, ⟨by omega, rfl⟩, HE8.out, hst.out⟩
                      case round =>
                        obtain ⟨i2, bq, hi2, rfl, rfl, hbq, hex2, hys⟩ := hrel
                        obtain ⟨ys, how2, hlk2, hok2⟩ := hys.out
                        have hyn : ys.length = m := by rw [← lks_len, hlk2, reTo_len]; exact HLM.out
                        by_cases hlt2 : i2 < m
                        · have hiy : i2 < ys.length := by omega
                          have hiL : i2 < L'.length := by rw [HLM.out]; exact hlt2
                          have hyx : (ys[i2]).l = L'[i2] := by
                            have h1 : (lks ys)[i2]? = some (ys[i2]).l := by simp [lks, hiy]
                            rw [hlk2, reTo_get L' i2 hiL] at h1
                            exact (Option.some.inj h1).symm
                          obtain ⟨z, hz⟩ : ∃ z, z = ys[i2] := ⟨_, rfl⟩
                          have hzo : LkOk z.l := by rw [hz, hyx]; exact HLOK.out _ (List.getElem_mem _)
                          have hzb := how2.bod _ (List.getElem_mem hiy)
                          have hcc := fun W (e : Ext wr W) => chain_any bq z W hbq.out.1 hzo (by rw [hz]; exact (hzb.byts.1).ext e)
                          have hcl := how2.cells i2 hiy
                          rw [← hz] at hcl
                          obtain ⟨c0, c1, c2, c3, c4, c5, c6, c7, c8, c9⟩ := hcl wr (Ext.refl _)
                          obtain ⟨cn, hcn⟩ : ∃ cn, cn = chainN bq z.l := ⟨_, rfl⟩
                          rw [← hcn] at hcc
                          have hc64 : cn < 18446744073709551616 := by rw [hcn]; exact p61_64 (chainN_lt _ _)
                          have HCC := Lib.hid hcc; have HCL := Lib.hid hcl; have HYX := Lib.hid hyx; have HZ := Lib.hid hz; have HOW2 := Lib.hid how2; have HLK2 := Lib.hid hlk2; have HOK2 := Lib.hid hok2; have HCN := Lib.hid hcn; have HYN := Lib.hid hyn; have HC64 := Lib.hid hc64; have HIY := Lib.hid hiy; have HIL := Lib.hid hiL
                          have hi0 : (0 : Int) ≤ (i2 : Int) := by omega
                          have hi1 : (i2 : Int) < (m : Int) := by omega
                          clear hcc hcl hyx hz how2 hlk2 hok2 hcn hys hyn hc64
                          go_upto_region 52 with fail
                          go_wp2_with (fail)
                          (with_reducible refine (HCC.out _ (Ext.refl _)).mono ?_); rintro e w9 ⟨rfl, he9⟩
                          have HE9 := Lib.hid (hex2.out.trans he9)
                          have how9 := HOW2.out.ext he9
                          have f9 := fun W (e : Ext w9 W) => (how9.ext e).free (i2 * 10 + 9)
                          have k9 := fun W (e : Ext w9 W) => (how9.cells i2 hiy W e).2.2.2.2.2.2.2.2.2
                          rw [← HZ.out] at k9
                          have hw9 := how9.setF hiy (j := 9) (by omega) ⟨withCh z.l cn, z.ba, z.bc⟩ (.int .u64 (cn : Int)) (by rw [← HZ.out]; rfl) (by rw [← HZ.out]) (by rw [← HZ.out]) (by rw [← HZ.out]; rfl)
                          have hex9 := HE9.out.set (p := ⟨gd, i2 * 10 + 9, none⟩) hgB (.int .u64 (cn : Int))
                          have HW9 := Lib.hid hw9; have HEX9 := Lib.hid hex9
                          have E9 := Ext.refl w9
                          clear how9 hw9 hex9 he9 hzo hzb HCC c0 c1 c2 c3 c4 c5 c6 c7 c8 c9
                          go_upto_region 53 with fail
                          generalize World.setCell w9 _ _ = w10 at *
                          clear f9 k9 E9
                          have E10 := Ext.refl w10
                          have n9 : ∀ W, Ext w10 W → W.cell? ⟨gd, i2 * 10 + 9, none⟩ = some (.int .u64 (cn : Int)) := fun W e => by
                            have h1 := (HW9.out.cells i2 (by rw [List.length_set]; exact hiy) W e).2.2.2.2.2.2.2.2.2
                            rw [List.getElem_set_self] at h1
                            exact h1
                          go_wp2_with (fail)
                          go_roundw
                          case rel =>
                            refine ⟨i2 + 1, cn, by omega, by go_num, rfl, ⟨HC64.out, ?_⟩, HEX9.out, _, HW9.out, ?_, ?_⟩
                            · rw [reCh_next L' i2 hiL, ← hbq.out.2, HCN.out, HZ.out, HYX.out]
                            · have e1 : lks (ys.set i2 ⟨withCh z.l cn, z.ba, z.bc⟩) = (lks ys).set i2 (withCh z.l cn) := by simp [lks]
                              rw [e1, HLK2.out, HCN.out, HZ.out, HYX.out, hbq.out.2]
                              exact reTo_set L' i2 hiL
                            · refine HOK2.out.set i2 _ (LkOk.withCh ?_ HC64.out)
                              rw [HZ.out, HYX.out]
                              exact HLOK.out _ (List.getElem_mem _)
                          case measure => simp [intOf]; omega
                        · have hm3 : i2 = m := by omega
                          have hR : lks ys = reCh 7 L' := by rw [hlk2]; exact reTo_all L' i2 (by rw [HLM.out]; omega)
                          have hld := load_f (c := dc) how2.links hok2 (by rw [hyn]; omega)
                          obtain ⟨g1, g2, p, g3, g4⟩ := seen_open HGS.out HPI.out k hkS (by rw [← HXS.out]; exact h34.out) bs at0 j hj7 (by rw [← HXS.out]; exact HQD.out.symm) (reCh 7 L') (by rw [HL'.out, HYL.out, HXS.out])
                          rw [hyn, hR] at hld
                          simp only [g1, if_true] at hld
                          rw [← HXS.out] at g3 g4
                          obtain ⟨so, hso⟩ : ∃ so, so = (openR (loadS (reCh 7 L')) x.l.cu p x.l.nu x.l.ve).1 := ⟨_, rfl⟩
                          obtain ⟨er, her⟩ : ∃ er, er = (openR (loadS (reCh 7 L')) x.l.cu p x.l.nu x.l.ve).2.2 := ⟨_, rfl⟩
                          rw [← her] at g4
                          have HLD := Lib.hid hld; have HG2 := Lib.hid g2; have HG3 := Lib.hid g3; have HG4 := Lib.hid g4; have HSO := Lib.hid hso; have HER := Lib.hid her; have HR := Lib.hid hR; have HOW2 := Lib.hid how2
                          have hky : k < ys.length := by omega
                          have hyk : (ys[k]).l.cu = x.l.cu ∧ (ys[k]).l.nu = x.l.nu ∧ (ys[k]).l.ve = x.l.ve := by
                            have hkL : k < L'.length := by rw [HLM.out]; exact hkm
                            have h1 : (lks ys)[k]? = some (ys[k]).l := by simp [lks, hky]
                            rw [hR, reCh_step L' 7 k hkL] at h1
                            have h2 := Option.some.inj h1
                            have h3 : L'[k] = y.l := by
                              have h4 : L'[k]? = some y.l := by rw [HL'.out]; exact List.getElem?_set_self hkS
                              rw [List.getElem?_eq_getElem hkL] at h4
                              exact Option.some.inj h4
                            rw [← h2, h3, HYL.out]
                            exact ⟨rfl, rfl, rfl⟩
                          have HYK := Lib.hid hyk
                          clear hld g1 g2 g3 g4 hso her hR how2 hlk2 hok2 hyk
                          have hlt3 : ¬ (i2 : Int) < (m : Int) := by omega
                          go_wp2_with (fail)
                          (with_reducible refine HLD.out.mono ?_); rintro e w9 ⟨b2, rfl, hf⟩
                          have he9 : Ext wr w9 := by obtain ⟨F, A, h1, h2, -⟩ := hf; exact h2
                          have HE9 := Lib.hid (hex2.out.trans he9)
                          have hcl := (HOW2.out.ext he9).cells k hky
                          have c1 := fun W (e : Ext w9 W) => (hcl W e).2.1
                          have c3 := fun W (e : Ext w9 W) => (hcl W e).2.2.2.1
                          have c4 := fun W (e : Ext w9 W) => (hcl W e).2.2.2.2.1
                          rw [HYK.out.1] at c1
                          rw [HYK.out.2.1] at c3
                          rw [HYK.out.2.2] at c4
                          have hlk := fun W (e : Ext w9 W) => (HVMr.out.ext (HE9.out.trans e)).look HOK.out.cu HG3.out
                          have hop := fun W (e : Ext w9 W) => open_f (hf.ext e) HG2.out x.l.cu p x.l.nu x.l.ve HOK.out.cu (HPS.out _ HG3.out) HOK.out.nu0 HOK.out.nu1 HOK.out.ve0 HOK.out.ve1
                          unfold OpenV at hop
                          rw [← HSO.out, ← HER.out] at hop
                          have HOP := Lib.hid hop
                          have hr0 := Ext.refl w9
                          clear HLD hop hcl hf he9
                          go_upto_region 57 with fail
                          refine wp_region_ext (by kernel_rfl) (by kernel_rfl) hr0 ?_
                          repeat (first | go_big_quiet_step (((go_at_call 36; exact Calls.later (HOP.out _ (Later.ok _))))) | quiet_step (((go_at_call 36; exact Calls.later (HOP.out _ (Later.ok _))))))
                          refine wpQuiet_nil ?_
                          rintro _ ⟨nq, rfl⟩
                          have he11 := nq.ok
                          generalize nq.val = w11 at *
                          clear hr0 c1 c3 c4 hlk
                          rcases HG4.out with q4 | q4
                          all_goals
                            subst q4
                            go_wp2_with (fail)
                            (with_reducible refine (known_any _).mono ?_); rintro e w12 ⟨rfl, he12⟩
                            go_wp2_with (fail)
                            go_ret
                            exact ⟨rfl, ((HXD.out.trans HE9.out).trans he11).trans he12⟩
  · go_wp2_with (fail)
    (with_reducible refine (known_any _).mono ?_); rintro e w3 ⟨rfl, he3⟩
    go_wp2_with (fail)
    go_ret
    exact ⟨rfl, (HE.out.trans HE12.out).trans he3⟩
end Go.Proofs.Ytlahejakcgoheaa
