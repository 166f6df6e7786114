/-
  Walk: the law VaultChangesSeen, a byte of Tag is changed.
-/
import Derived.Test.YtlahejakcgoheaaLC3
set_option linter.unusedVariables false
set_option linter.unusedSimpArgs false
namespace Go.Proofs.Ytlahejakcgoheaa
open Go.RowKit Go.Maps
theorem tag_val (tg vl at0 z : Nat) (htg : tg < 18446744073709551616) (hz : z = tg ^^^ ((vl % 255 + 1) * 2 ^ (8 * (at0 % 8)))) :
    bits .xor .u64 (tg : Int) (IntKind.u64.wrap (IntKind.u64.wrap (IntKind.u32.wrap ((vl : Int).tmod 255 + 1)) * 2 ^ min (IntKind.u64.wrap (8 * IntKind.u64.wrap ((at0 : Int).tmod 8))).toNat 64)) = (z : Int) := by
  have e1 : (vl : Int).tmod 255 = ((vl % 255 : Nat) : Int) := (Int.ofNat_tmod vl 255).symm
  have e2 : (at0 : Int).tmod 8 = ((at0 % 8 : Nat) : Int) := (Int.ofNat_tmod at0 8).symm
  rw [e1, e2]
  have h8 : at0 % 8 ≤ 7 := by omega
  generalize hk : at0 % 8 = k at *
  have h3 : vl % 255 + 1 ≤ 255 := by omega
  generalize hv : vl % 255 = v at *
  have w1 : IntKind.u32.wrap ((v : Int) + 1) = ((v + 1 : Nat) : Int) := by rw [IntKind.wrap_u32]; omega
  have w2 : IntKind.u64.wrap ((v + 1 : Nat) : Int) = ((v + 1 : Nat) : Int) := by rw [IntKind.wrap_u64]; omega
  have w3 : IntKind.u64.wrap ((k : Nat) : Int) = ((k : Nat) : Int) := by rw [IntKind.wrap_u64]; omega
  have w4 : IntKind.u64.wrap (8 * ((k : Nat) : Int)) = ((8 * k : Nat) : Int) := by rw [IntKind.wrap_u64]; omega
  rw [w1, w2, w3, w4, Int.toNat_natCast, Nat.min_eq_left (by omega)]
  have h2 : (2 : Nat) ^ (8 * k) ≤ 2 ^ 56 := Nat.pow_le_pow_right (by omega) (by omega)
  have hb : (v + 1) * 2 ^ (8 * k) < 18446744073709551616 := Nat.lt_of_le_of_lt (Nat.mul_le_mul h3 h2) (by decide)
  have e3 : ((v + 1 : Nat) : Int) * 2 ^ (8 * k) = (((v + 1) * 2 ^ (8 * k) : Nat) : Int) := by simp
  rw [e3]
  have w5 : IntKind.u64.wrap (((v + 1) * 2 ^ (8 * k) : Nat) : Int) = (((v + 1) * 2 ^ (8 * k) : Nat) : Int) := by
    generalize (v + 1) * 2 ^ (8 * k) = X at *
    rw [IntKind.wrap_u64]; omega
  rw [w5, Go.bits_xor_u64_nat _ _ htg hb, hz]
set_option maxRecDepth 100000 in
set_option maxHeartbeats 8000000 in
theorem seen_5 (ca ba : Option Addr) (xs : List Op) (bs : List UInt8) (cc bc lk at0 fd vl : Nat) (w : World) (hx : Ops w ca xs) (hb : Byts w ba bs) (hl : xs.length ≤ 9223372036854775807) (hbl : bs.length ≤ 9223372036854775807) (hlk : lk < 256) (hat : at0 < 65536) (hfd : fd = 5) (hvl : vl < 4294967296) :
    Calls Try.prog 8 #[.agg #[.slice ca xs.length cc, .int .u8 lk, .slice ba bs.length bc, .int .u16 at0, .int .u8 fd, .int .u32 vl]] w (Ret (.bool true) w) := by
  have HX := Lib.hid hx; have HB := Lib.hid hb; have HBL := Lib.hid hbl; have HLK := Lib.hid hlk; have HAT := Lib.hid hat; have HFD := Lib.hid hfd; have HVL := Lib.hid hvl
  have hwd := fun W (e : Ext w W) => wide_any ca xs cc W (hx.ext e) hl
  obtain ⟨n, hn⟩ : ∃ n, n = xs.length := ⟨_, rfl⟩
  obtain ⟨nb, hnb⟩ : ∃ nb, nb = bs.length := ⟨_, rfl⟩
  obtain ⟨q, hq⟩ : ∃ q, q = wideB xs := ⟨_, rfl⟩
  have HN := Lib.hid hn; have HQ := Lib.hid hq; have HNB := Lib.hid hnb
  rw [← hn, ← hq] at hwd
  rw [← hn] at hl ⊢
  rw [← hnb]
  rw [← hnb] at HBL
  have HWD := Lib.hid hwd
  clear hx hb hn hq hwd hnb hbl hlk hat hfd hvl
  go_enter Try.func8, Try.ntmps8
  go_upto_region 1 with fail
  generalize hw1 : World.alloc _ _ = w1
  obtain ⟨he, o1, -⟩ := alloc1 hw1
  obtain ⟨a0, a1, a2, a3, a4, a5⟩ := obj_cells6 o1
  have HA0 := Lib.hid a0; have HA1 := Lib.hid a1; have HA2 := Lib.hid a2; have HA3 := Lib.hid a3; have HA4 := Lib.hid a4; have HA5 := Lib.hid a5
  clear hw1 o1 a1 a2 a3 a4 a5
  have E1 := Ext.refl w1
  go_wp2_with (fail)
  (with_reducible refine (HWD.out _ he).mono ?_); rintro e w2 ⟨rfl, he2⟩
  clear HWD E1 a0
  have HE := Lib.hid he; have HE12 := Lib.hid he2
  clear he he2
  cases q
  · have hwf := wideB_false HQ.out.symm
    rw [← HN.out] at hwf
    have hn25 := hwf.1
    have HWF := Lib.hid hwf.2
    clear hwf hl
    go_wp2_with (fail)
    (with_reducible refine (new_f _).mono ?_); rintro e w3 ⟨b, rfl, hv⟩
    have hmm := @run_makeMap Try.prog
    have HV := Lib.hid hv
    clear hv
    go_upto_region 5 with fail
    generalize hw4 : World.alloc _ _ = w4
    have hvm := VM.of HV.out hw4.symm
    obtain ⟨g, hg⟩ : ∃ g, g = w3.heap.size := ⟨_, rfl⟩
    rw [← hg] at hvm ⊢
    have HVM := Lib.hid hvm
    clear hw4 hvm hmm hg HV
    go_wp2_with (fail)
    go_loopw [5] (fun i wr => ∃ k : Nat, k ≤ n ∧ i = .int .i64 k ∧ Hid (∃ S P B, VM w2 wr b g S P B ∧ Good S ∧ PI S P ∧ P.length ≤ k)) (fun i _ => n - (intOf i).toNat)
    case atStart => exact ⟨0, Nat.zero_le _, rfl, ⟨_, _, _, HVM.out, Good.new, PI.new, Nat.le_refl _⟩⟩
    case round =>
      obtain ⟨k, hk, rfl, hh⟩ := hrel
      obtain ⟨S, P, B, hvm, hgs, hpi, hpl⟩ := hh.out
      have HEr := Lib.hid (HE12.out.trans hvm.old)
      have HVMr := Lib.hid hvm; have HGS := Lib.hid hgs; have HPI := Lib.hid hpi; have HPL := Lib.hid hpl
      have a0 := fun W (e : Ext wr W) => HA0.out W (HEr.out.trans e)
      have E0 := Ext.refl wr
      clear hh hvm hgs hpi hpl
      by_cases hlt : k < n
      · have hlx : k < xs.length := by rw [← HN.out]; exact hlt
        obtain ⟨ob, oo, rfl, hc⟩ := HX.out.at k hlx
        obtain ⟨c0, c1, c2, c3, c4, c5, c6, c7, c8⟩ := hc wr (HE.out.trans HEr.out)
        have hok := HX.out.2 k hlx
        have hwo := HWF.out k hlt
        generalize oth xs k = x at *
        have HOK := Lib.hid hok; have HWO := Lib.hid hwo
        clear hc hok hlx hwo
        have hi0 : (0 : Int) ≤ (k : Int) := by omega
        have hi1 : (k : Int) < (n : Int) := by omega
        go_upto_region 9 with fail
        clear c0 c1 c2 c3 c4 c5 c6 c7 c8 a0
        generalize hwa : World.alloc _ _ = wa
        obtain ⟨hea, oa, hsa⟩ := alloc1 hwa
        obtain ⟨c0, c1, c2, c3, c4, c5, c6, c7, c8⟩ := obj_cells9 oa
        have hpl := play_vm (HVMr.out.cap.ext hea) HGS.out x HOK.out
        have HPLAY := Lib.hid hpl; have HOA := Lib.hid oa; have HSA := Lib.hid hsa; have HEA := Lib.hid hea
        have Ea := Ext.refl wa
        clear hwa hpl oa hea E0 hsa
        go_wp2_with fail
        (with_reducible refine HPLAY.out.mono ?_); rintro e wb ⟨ra, rc, rfl, ht, hkp⟩
        have hbb := hkp.block wr.heap.size (Nat.le_refl _) (by rw [HSA.out]; omega)
        rw [HOA.out] at hbb
        obtain ⟨r, hr⟩ : ∃ r, r = playR S x := ⟨_, rfl⟩
        have HRR := Lib.hid hr
        rw [← hr]
        have HTb := Lib.hid ht; have HBb := Lib.hid hbb
        clear c0 c1 c2 c3 c4 c5 c6 c7 c8 Ea HPLAY ht hkp hbb hr
        go_upto_region 10 with fail
        generalize hwc : World.alloc _ _ = wc
        obtain ⟨hec, oc, hsc⟩ := alloc1 hwc
        obtain ⟨c0, c1, c2, c3, c4, c5, c6, c7, c8⟩ := obj_cells9 (hec.block HBb.out)
        obtain ⟨d0, d1, d2, d3⟩ := obj_cells4 oc
        have HTc := Lib.hid (HTb.out.ext hec)
        have Ec := Ext.refl wc
        clear hwc oc hec hsc c3 c4 c5 c6 c7 c8 d0 d1 d2
        by_cases q1 : x.kind = 1
        · have T1 : (x.kind == 1) = true := by simpa using q1
          have herr : r.err = enrolE S x.name x.pass := by rw [HRR.out]; simp [playR, q1]
          by_cases q0 : r.err = 0
          · have T2 : (r.err == 0) = true := by simpa using q0
            rw [q0] at herr
            have hst : stepP S P x = P ++ [(x.name, x.pass)] := by unfold stepP; rw [if_pos ⟨q1, herr.symm⟩]
            have hpi2 := HPI.out.play x HWO.out
            rw [hst] at hpi2
            have hfree : ∀ q ∈ P, q.1 ≠ x.name := fun q hq e => by
              have h1 : (S.find x.name).isSome = true := by
                rw [find_isSome, HPI.out.ids, List.any_eq_true]
                exact ⟨_, List.mem_map.2 ⟨q, hq, rfl⟩, by simpa using e⟩
              have h2 := herr.symm
              unfold enrolE at h2
              rw [h1] at h2
              split at h2
              · cases h2
              · simp at h2
            have hup := run_mapW (HTc.out.store x.name x.pass HOK.out.nm hfree (by have := HPL.out; omega))
            have hup1 := hup.1
            have HU := Lib.hid hup.2; have HPI2 := Lib.hid hpi2
            clear hup hfree hst hpi2 herr
            go_upto_region 7 with fail
            generalize mapW _ _ _ _ _ = wd at *
            clear hup1 c0 c1 c2 d3 Ec
            go_wp2_with (fail)
            go_roundw
            case rel => exact ⟨k + 1, by omega, by go_num, ⟨_, _, _, HU.out, HGS.out.play x, HPI2.out, by rw [List.length_append]; simp; exact HPL.out⟩⟩
            case measure => simp [intOf]; omega
          · have T2 : (r.err == 0) = false := by simpa using q0
            have hst : stepP S P x = P := by unfold stepP; rw [if_neg (fun q => q0 (by rw [herr]; exact q.2))]
            have hpi2 := HPI.out.play x HWO.out
            rw [hst] at hpi2
            have HPI2 := Lib.hid hpi2
            clear hst hpi2 herr
            go_wp2_with (fail)
            go_roundw
            case rel => exact ⟨k + 1, by omega, by go_num, ⟨_, _, _, HTc.out, HGS.out.play x, HPI2.out, by have := HPL.out; omega⟩⟩
            case measure => simp [intOf]; omega
        · have T1 : (x.kind == 1) = false := by simpa using q1
          have hst : stepP S P x = P := by unfold stepP; rw [if_neg (fun q => q1 q.1)]
          have hpi2 := HPI.out.play x HWO.out
          rw [hst] at hpi2
          have HPI2 := Lib.hid hpi2
          clear hst hpi2
          go_wp2_with (fail)
          go_roundw
          case rel => exact ⟨k + 1, by omega, by go_num, ⟨_, _, _, HTc.out, HGS.out.play x, HPI2.out, by have := HPL.out; omega⟩⟩
          case measure => simp [intOf]; omega
      · obtain rfl : k = n := by omega
        have hdm := dump_f HVMr.out.fresh HGS.out
        have HDM := Lib.hid hdm
        have hsh := HGS.out.inv.short
        have hoks := HVMr.out.fresh.oks
        have HOKS := Lib.hid hoks; have HSH := Lib.hid hsh
        clear hdm hsh hoks HPL
        go_wp2_with (fail)
        (with_reducible refine HDM.out.mono ?_); rintro e w5 ⟨da, dc, ds, rfl, he5, hds, hown⟩
        have HVM5 := Lib.hid (HVMr.out.ext he5)
        have HE5 := Lib.hid (HEr.out.trans he5)
        have HDS := Lib.hid hds; have HOW := Lib.hid hown
        have hmlen : ds.length = S.chain.length := by rw [← lks_len, hds]
        obtain ⟨m, hm⟩ : ∃ m, m = ds.length := ⟨_, rfl⟩
        rw [← hm]
        have hm2 : m ≤ 14420 := by rw [hm, hmlen]; exact HSH.out
        have HM := Lib.hid hm; have HML := Lib.hid hmlen
        clear hds hown hm hmlen HDM he5 a0 E0
        by_cases hz : m = 0
        · subst hz
          go_wp2_with (fail)
          (with_reducible refine (known_any _).mono ?_); rintro e w6 ⟨rfl, he6⟩
          go_wp2_with (fail)
          go_ret
          exact ⟨rfl, (HE.out.trans HE5.out).trans he6⟩
        · have hm0 : (0 : Int) < (m : Int) := by omega
          have T0 : ((m : Int) == 0) = false := by simpa using hz
          obtain ⟨gd, hgd, hgB⟩ := HOW.out.head (by rw [← HM.out]; omega)
          subst hgd
          have E5 := Ext.refl w5
          have a0 := fun W (e : Ext w5 W) => HA0.out W (HE5.out.trans e)
          have a1 := fun W (e : Ext w5 W) => HA1.out W (HE5.out.trans e)
          have a2 := fun W (e : Ext w5 W) => HA2.out W (HE5.out.trans e)
          have a3 := fun W (e : Ext w5 W) => HA3.out W (HE5.out.trans e)
          have a4 := fun W (e : Ext w5 W) => HA4.out W (HE5.out.trans e)
          have a5 := fun W (e : Ext w5 W) => HA5.out W (HE5.out.trans e)
          obtain ⟨k, hkk⟩ : ∃ k, k = lk % m := ⟨_, rfl⟩
          have hrem : (wrap64 (lk : Int)).tmod (m : Int) = (k : Int) := by
            have e : wrap64 (lk : Int) = (lk : Int) := by have := HLK.out; unfold wrap64; omega
            rw [e, hkk]
            exact (Int.ofNat_tmod lk m).symm
          have hkm : k < m := by rw [hkk]; exact Nat.mod_lt _ (by omega)
          have hk0 : (0 : Int) ≤ (k : Int) := by omega
          have hk1 : (k : Int) < (m : Int) := by omega
          clear hkk
          go_upto_region 18 with fail
          clear hrem hm0 T0
          have hkd : k < ds.length := by rw [← HM.out]; exact hkm
          obtain ⟨x, hxx⟩ : ∃ x, x = ds[k] := ⟨_, rfl⟩
          have hcl := HOW.out.cells k hkd
          rw [← hxx] at hcl
          have HXX := Lib.hid hxx
          clear hxx
          obtain ⟨c0, c1, c2, c3, c4, c5, c6, c7, c8, c9⟩ := hcl w5 E5
          have fr : ∀ W, Ext w5 W → ∀ i, W.frozen? ⟨gd, i, none⟩ = false := fun W e i => (HOW.out.ext e).free i
          have hfd := HFD.out
          subst hfd
          have HCL := Lib.hid hcl; have FR := Lib.hid fr
          obtain ⟨z, hz⟩ : ∃ z : Nat, z = x.l.tag ^^^ ((vl % 255 + 1) * 2 ^ (8 * (at0 % 8))) := ⟨_, rfl⟩
          have htg : x.l.tag < 18446744073709551616 := by
            have h1 : x.l ∈ S.chain := by rw [← HDS.out, HXX.out]; exact List.mem_map.2 ⟨_, List.getElem_mem hkd, rfl⟩
            exact (HOKS.out _ h1).tag
          have hzl : z < 18446744073709551616 := by
            rw [hz]
            refine Nat.xor_lt_two_pow (n := 64) htg ?_
            have h8 : at0 % 8 ≤ 7 := by omega
            have h2 : (2 : Nat) ^ (8 * (at0 % 8)) ≤ 2 ^ 56 := Nat.pow_le_pow_right (by omega) (by omega)
            have h3 : vl % 255 + 1 ≤ 255 := by omega
            calc (vl % 255 + 1) * 2 ^ (8 * (at0 % 8)) ≤ 255 * 2 ^ 56 := Nat.mul_le_mul h3 h2
              _ < 2 ^ 64 := by decide
          have HZ : Hid (bits .xor .u64 (x.l.tag : Int) (IntKind.u64.wrap (IntKind.u64.wrap (IntKind.u32.wrap ((vl : Int).tmod 255 + 1)) * 2 ^ min (IntKind.u64.wrap (8 * IntKind.u64.wrap ((at0 : Int).tmod 8))).toNat 64)) = (z : Int)) := tag_val x.l.tag vl at0 z htg hz
          obtain ⟨y, hy⟩ : ∃ y : Lv, y = ⟨{ x.l with tag := z }, x.ba, x.bc⟩ := ⟨_, rfl⟩
          have HT : Hid (∀ W, Ext w5 W → W.cell? ⟨gd, k * 10 + 8, none⟩ = some (.int .u64 (x.l.tag : Int))) := fun W e => (HCL.out W e).2.2.2.2.2.2.2.2.1
          have HF : Hid (∀ W, Ext w5 W → W.frozen? ⟨gd, k * 10 + 8, none⟩ = false) := fun W e => FR.out W e _
          have HGE : Hid (w1.heap.size ≤ gd) := Nat.le_trans HEr.out.size hgB
          have HR : Hid (∀ W, Ext w5 W → Ext w1 (W.setCell ⟨gd, k * 10 + 8, none⟩ (.int .u64 (z : Int))) ∧ OwnLs (W.setCell ⟨gd, k * 10 + 8, none⟩ (.int .u64 (z : Int))) wr.heap.size (some ⟨gd, 0, none⟩) dc (ds.set k y)) := fun W e =>
            ⟨(HE5.out.trans e).set HGE.out _, (HOW.out.ext e).setF hkd (j := 8) (by omega) y (.int .u64 (z : Int)) (by rw [← HXX.out, hy]; rfl) (by rw [← HXX.out, hy]) (by rw [← HXX.out, hy]) (by rw [← HXX.out, hy])⟩
          have HZZ := Lib.hid hz; have HTG := Lib.hid htg; have HZL := Lib.hid hzl; have HYY := Lib.hid hy
          clear c0 c1 c2 c3 c4 c5 c6 c7 c8 c9 hcl a0 a1 a2 a3 a5 fr hz htg hzl hy
          go_upto_region 39 with fail
          refine l8_tag (R := fun W => Ext w1 W ∧ OwnLs W wr.heap.size (some ⟨gd, 0, none⟩) dc (ds.set k y)) HE5 HGE HT HF HA5 HA3 HR HZ _ (by rfl) rfl rfl ?_
          intro vs w7 ls9 hl9 hJ9 e0 e1 e2 e3 e4 e5 e6 e7 e8 e9 e10 e11 e12 e13 e14 e15 e16 e17
          simp only [Act.put, List.setIfInBounds_toArray, List.set_cons_zero, List.set_cons_succ]
          rw [e0, e1, e2, e3, e4, e5, e6, e7, e8, e9, e10, e11, e12, e13, e14, e15, e16, e17]
          have hrr := hJ9.2.2.2.2 (hl9 18 (by omega))
          have HE7 := Lib.hid hrr.1; have HOW7 := Lib.hid hrr.2
          clear hrr hJ9 hl9 e0 e1 e2 e3 e4 e5 e6 e7 e8 e9 e10 e11 e12 e13 e14 e15 e16 e17 a4
          go_upto_region 41 with fail
          have hy := HYY.out
          have hlk : (ds.set k y).length = m := by rw [List.length_set, ← HM.out]
          have hlks : lks (ds.set k y) = S.chain.set k y.l := by rw [← HDS.out]; simp [lks]
          have hxS : x.l = S.chain[k]'(by rw [← HML.out, ← HM.out]; exact hkm) := by
            have h1 : (lks ds)[k]? = some x.l := by rw [HXX.out]; simp [lks, hkd]
            rw [HDS.out, List.getElem?_eq_getElem (by rw [← HML.out, ← HM.out]; exact hkm)] at h1
            exact (Option.some.inj h1).symm
          have hxm : x.l ∈ S.chain := by rw [hxS]; exact List.getElem_mem _
          have hsm := HGS.out.sm x.l hxm
          have hok := HOKS.out x.l hxm
          have hck0 := HGS.out.check
          have hch := checkI_at S.chain 7 0 k hck0 (by rw [← HML.out, ← HM.out]; exact hkm)
          rw [← hxS] at hch
          have hoky : LksOk (ds.set k y) := LksOk.of hlks fun l hl => by
            rcases List.mem_or_eq_of_mem_set hl with hl | rfl
            · exact HOKS.out l hl
            · rw [hy]; exact ⟨hok.op, hok.cu, hok.ki, hok.nu0, hok.nu1, hok.ve0, hok.ve1, hok.da0, hok.da1, hok.un0, hok.un1, hok.bo, HZL.out, hok.ch⟩
          have hck := check_any (some ⟨gd, 0, none⟩) (ds.set k y) dc w7 HOW7.out.links hoky (by rw [hlk]; omega)
          rw [hlk, hlks] at hck
          obtain ⟨ci, hci⟩ : ∃ ci, ci = checkI 7 0 (S.chain.set k y.l) := ⟨_, rfl⟩
          rw [← hci] at hck
          have HCI := Lib.hid hci
          have HCK := Lib.hid hck
          have a4 := fun W (e : Ext w7 W) => HA4.out W (HE7.out.trans e)
          have hset : ci = (k : Int) := by
            rw [hci, checkI_set S.chain y.l 7 0 k hck0 (by rw [← HML.out, ← HM.out]; exact hkm), Nat.zero_add]
            intro e
            have e2 : chainN (lastB 7 (S.chain.take k)) { x.l with tag := x.l.tag ^^^ ((vl % 255 + 1) * 2 ^ (8 * (at0 % 8))) } = chainN (lastB 7 (S.chain.take k)) x.l := by rw [hch, ← HZZ.out]; rw [hy] at e; exact e
            exact chain_tag hsm.op (by omega) (by omega) (by omega) e2
          have E7 := Ext.refl w7
          clear hlk hlks hxS hxm hsm hok hck0 hch hoky hck hci hy
          subst hset
          go_wp2_with (fail)
          (with_reducible refine HCK.out.mono ?_); rintro e w8 ⟨rfl, he8⟩
          have HE8 := Lib.hid (HE7.out.trans he8)
          have E8 := Ext.refl w8
          have a4 := fun W (e : Ext w8 W) => HA4.out W (HE8.out.trans e)
          clear HCK he8
          go_wp2_with (fail)
          (with_reducible refine (known_any _).mono ?_); rintro e w9 ⟨rfl, he9⟩
          go_wp2_with (fail)
          go_ret
          exact ⟨rfl, (HE.out.trans HE8.out).trans he9⟩
  · go_wp2_with (fail)
    (with_reducible refine (known_any _).mono ?_); rintro e w3 ⟨rfl, he3⟩
    go_wp2_with (fail)
    go_ret
    exact ⟨rfl, (HE.out.trans HE12.out).trans he3⟩
end Go.Proofs.Ytlahejakcgoheaa
