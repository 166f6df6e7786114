/-
  Walk: the law VaultChangesSeen, a number of the link is changed.
-/
import Derived.Test.YtlahejakcgoheaaLC1
set_option linter.unusedVariables false
set_option linter.unusedSimpArgs false
namespace Go.Proofs.Ytlahejakcgoheaa
open Go.RowKit Go.Maps
set_option maxRecDepth 100000 in
set_option maxHeartbeats 8000000 in
theorem seen_1 (ca ba : Option Addr) (xs : List Op) (bs : List UInt8) (cc bc lk at0 fd vl : Nat) (w : World) (hx : Ops w ca xs) (hb : Byts w ba bs) (hl : xs.length ≤ 9223372036854775807) (hbl : bs.length ≤ 9223372036854775807) (hlk : lk < 256) (hat : at0 < 65536) (hfd : fd = 1) (hvl : vl < 4294967296) :
    Calls Try.prog 8 #[.agg #[.slice ca xs.length cc, .int .u8 lk, .slice ba bs.length bc, .int .u16 at0, .int .u8 fd, .int .u32 vl]] w (Ret (.bool true) w) := by
  have HX := Lib.hid hx; have HB := Lib.hid hb; have HBL := Lib.hid hbl; have HLK := Lib.hid hlk; have HAT := Lib.hid hat; have HFD := Lib.hid hfd; have HVL := Lib.hid hvl
  have hwd := fun W (e : Ext w W) => wide_any ca xs cc W (hx.ext e) hl
  obtain ⟨n, hn⟩ : ∃ n, n = xs.length := ⟨_, rfl⟩
  obtain ⟨nb, hnb⟩ : ∃ nb, nb = bs.length := ⟨_, rfl⟩
  obtain ⟨q, hq⟩ : ∃ q, q = wideB xs := ⟨_, rfl⟩
  have HN := Lib.hid hn; have HQ := Lib.hid hq; have HNB := Lib.hid hnb
  rw [← hn, ← hq] at hwd
  rw [← hn] at hl ⊢
  rw [← hnb]
  rw [← hnb] at HBL
  have HWD := Lib.hid hwd
  clear hx hb hn hq hwd hnb hbl hlk hat hfd hvl
  go_enter Try.func8, Try.ntmps8
  go_upto_region 1 with fail
  generalize hw1 : World.alloc _ _ = w1
  obtain ⟨he, o1, -⟩ := alloc1 hw1
  obtain ⟨a0, a1, a2, a3, a4, a5⟩ := obj_cells6 o1
  have HA0 := Lib.hid a0; have HA1 := Lib.hid a1; have HA2 := Lib.hid a2; have HA3 := Lib.hid a3; have HA4 := Lib.hid a4; have HA5 := Lib.hid a5
  clear hw1 o1 a1 a2 a3 a4 a5
  have E1 := Ext.refl w1
  go_wp2_with (fail)
  (with_reducible refine (HWD.out _ he).mono ?_); rintro e w2 ⟨rfl, he2⟩
  clear HWD E1 a0
  have HE := Lib.hid he; have HE12 := Lib.hid he2
  clear he he2
  cases q
  · have hwf := wideB_false HQ.out.symm
    rw [← HN.out] at hwf
    have hn25 := hwf.1
    have HWF := Lib.hid hwf.2
    clear hwf hl
    go_wp2_with (fail)
    (with_reducible refine (new_f _).mono ?_); rintro e w3 ⟨b, rfl, hv⟩
    have hmm := @run_makeMap Try.prog
    have HV := Lib.hid hv
    clear hv
    go_upto_region 5 with fail
    generalize hw4 : World.alloc _ _ = w4
    have hvm := VM.of HV.out hw4.symm
    obtain ⟨g, hg⟩ : ∃ g, g = w3.heap.size := ⟨_, rfl⟩
    rw [← hg] at hvm ⊢
    have HVM := Lib.hid hvm
    clear hw4 hvm hmm hg HV
    go_wp2_with (fail)
    go_loopw [5] (fun i wr => ∃ k : Nat, k ≤ n ∧ i = .int .i64 k ∧ Hid (∃ S P B, VM w2 wr b g S P B ∧ Good S ∧ PI S P ∧ P.length ≤ k)) (fun i _ => n - (intOf i).toNat)
    case atStart => exact ⟨0, Nat.zero_le _, rfl, ⟨_, _, _, HVM.out, Good.new, PI.new, Nat.le_refl _⟩⟩
    case round =>
      obtain ⟨k, hk, rfl, hh⟩ := hrel
      obtain ⟨S, P, B, hvm, hgs, hpi, hpl⟩ := hh.out
      have HEr := Lib.hid (HE12.out.trans hvm.old)
      have HVMr := Lib.hid hvm; have HGS := Lib.hid hgs; have HPI := Lib.hid hpi; have HPL := Lib.hid hpl
      have a0 := fun W (e : Ext wr W) => HA0.out W (HEr.out.trans e)
      have E0 := Ext.refl wr
      clear hh hvm hgs hpi hpl
      by_cases hlt : k < n
      · have hlx : k < xs.length := by rw [← HN.out]; exact hlt
        obtain ⟨ob, oo, rfl, hc⟩ := HX.out.at k hlx
        obtain ⟨c0, c1, c2, c3, c4, c5, c6, c7, c8⟩ := hc wr (HE.out.trans HEr.out)
        have hok := HX.out.2 k hlx
        have hwo := HWF.out k hlt
        generalize oth xs k = x at *
        have HOK := Lib.hid hok; have HWO := Lib.hid hwo
        clear hc hok hlx hwo
        have hi0 : (0 : Int) ≤ (k : Int) := by omega
        have hi1 : (k : Int) < (n : Int) := by omega
        go_upto_region 9 with fail
        clear c0 c1 c2 c3 c4 c5 c6 c7 c8 a0
        generalize hwa : World.alloc _ _ = wa
        obtain ⟨hea, oa, hsa⟩ := alloc1 hwa
        obtain ⟨c0, c1, c2, c3, c4, c5, c6, c7, c8⟩ := obj_cells9 oa
        have hpl := play_vm (HVMr.out.cap.ext hea) HGS.out x HOK.out
        have HPLAY := Lib.hid hpl; have HOA := Lib.hid oa; have HSA := Lib.hid hsa; have HEA := Lib.hid hea
        have Ea := Ext.refl wa
        clear hwa hpl oa hea E0 hsa
        go_wp2_with fail
        (with_reducible refine HPLAY.out.mono ?_); rintro e wb ⟨ra, rc, rfl, ht, hkp⟩
        have hbb := hkp.block wr.heap.size (Nat.le_refl _) (by rw [HSA.out]; omega)
        rw [HOA.out] at hbb
        obtain ⟨r, hr⟩ : ∃ r, r = playR S x := ⟨_, rfl⟩
        have HRR := Lib.hid hr
        rw [← hr]
        have HTb := Lib.hid ht; have HBb := Lib.hid hbb
        clear c0 c1 c2 c3 c4 c5 c6 c7 c8 Ea HPLAY ht hkp hbb hr
        go_upto_region 10 with fail
        generalize hwc : World.alloc _ _ = wc
        obtain ⟨hec, oc, hsc⟩ := alloc1 hwc
        obtain ⟨c0, c1, c2, c3, c4, c5, c6, c7, c8⟩ := obj_cells9 (hec.block HBb.out)
        obtain ⟨d0, d1, d2, d3⟩ := obj_cells4 oc
        have HTc := Lib.hid (HTb.out.ext hec)
        have Ec := Ext.refl wc
        clear hwc oc hec hsc c3 c4 c5 c6 c7 c8 d0 d1 d2
        by_cases q1 : x.kind = 1
        · have T1 : (x.kind == 1) = true := by simpa using q1
          have herr : r.err = enrolE S x.name x.pass := by rw [HRR.out]; simp [playR, q1]
          by_cases q0 : r.err = 0
          · have T2 : (r.err == 0) = true := by simpa using q0
            rw [q0] at herr
            have hst : stepP S P x = P ++ [(x.name, x.pass)] := by unfold stepP; rw [if_pos ⟨q1, herr.symm⟩]
            have hpi2 := HPI.out.play x HWO.out
            rw [hst] at hpi2
            have hfree : ∀ q ∈ P, q.1 ≠ x.name := fun q hq e => by
              have h1 : (S.find x.name).isSome = true := by
                rw [find_isSome, HPI.out.ids, List.any_eq_true]
                exact ⟨_, List.mem_map.2 ⟨q, hq, rfl⟩, by simpa using e⟩
              have h2 := herr.symm
              unfold enrolE at h2
              rw [h1] at h2
              split at h2
              · cases h2
              · simp at h2
            have hup := run_mapW (HTc.out.store x.name x.pass HOK.out.nm hfree (by have := HPL.out; omega))
            have hup1 := hup.1
            have HU := Lib.hid hup.2; have HPI2 := Lib.hid hpi2
            clear hup hfree hst hpi2 herr
            go_upto_region 7 with fail
            generalize mapW _ _ _ _ _ = wd at *
            clear hup1 c0 c1 c2 d3 Ec
            go_wp2_with (fail)
            go_roundw
            case rel => exact ⟨k + 1, by omega, by go_num, ⟨_, _, _, HU.out, HGS.out.play x, HPI2.out, by rw [List.length_append]; simp; exact HPL.out⟩⟩
            case measure => simp [intOf]; omega
          · have T2 : (r.err == 0) = false := by simpa using q0
            have hst : stepP S P x = P := by unfold stepP; rw [if_neg (fun q => q0 (by rw [herr]; exact q.2))]
            have hpi2 := HPI.out.play x HWO.out
            rw [hst] at hpi2
            have HPI2 := Lib.hid hpi2
            clear hst hpi2 herr
            go_wp2_with (fail)
            go_roundw
            case rel => exact ⟨k + 1, by omega, by go_num, ⟨_, _, _, HTc.out, HGS.out.play x, HPI2.out, by have := HPL.out; omega⟩⟩
            case measure => simp [intOf]; omega
        · have T1 : (x.kind == 1) = false := by simpa using q1
          have hst : stepP S P x = P := by unfold stepP; rw [if_neg (fun q => q1 q.1)]
          have hpi2 := HPI.out.play x HWO.out
          rw [hst] at hpi2
          have HPI2 := Lib.hid hpi2
          clear hst hpi2
          go_wp2_with (fail)
          go_roundw
          case rel => exact ⟨k + 1, by omega, by go_num, ⟨_, _, _, HTc.out, HGS.out.play x, HPI2.out, by have := HPL.out; omega⟩⟩
          case measure => simp [intOf]; omega
      · obtain rfl : k = n := by omega
        have hdm := dump_f HVMr.out.fresh HGS.out
        have HDM := Lib.hid hdm
        have hsh := HGS.out.inv.short
        have hoks := HVMr.out.fresh.oks
        have HOKS := Lib.hid hoks; have HSH := Lib.hid hsh
        clear hdm hsh hoks HPL
        go_wp2_with (fail)
        (with_reducible refine HDM.out.mono ?_); rintro e w5 ⟨da, dc, ds, rfl, he5, hds, hown⟩
        have HVM5 := Lib.hid (HVMr.out.ext he5)
        have HE5 := Lib.hid (HEr.out.trans he5)
        have HDS := Lib.hid hds; have HOW := Lib.hid hown
        have hmlen : ds.length = S.chain.length := by rw [← lks_len, hds]
        obtain ⟨m, hm⟩ : ∃ m, m = ds.length := ⟨_, rfl⟩
        rw [← hm]
        have hm2 : m ≤ 14420 := by rw [hm, hmlen]; exact HSH.out
        have HM := Lib.hid hm; have HML := Lib.hid hmlen
        clear hds hown hm hmlen HDM he5 a0 E0
        by_cases hz : m = 0
        · subst hz
          go_wp2_with (fail)
          (with_reducible refine (known_any _).mono ?_); rintro e w6 ⟨rfl, he6⟩
          go_wp2_with (fail)
          go_ret
          exact ⟨rfl, (HE.out.trans HE5.out).trans he6⟩
        · have hm0 : (0 : Int) < (m : Int) := by omega
          have T0 : ((m : Int) == 0) = false := by simpa using hz
          obtain ⟨gd, hgd, hgB⟩ := HOW.out.head (by rw [← HM.out]; omega)
          subst hgd
          have E5 := Ext.refl w5
          have a0 := fun W (e : Ext w5 W) => HA0.out W (HE5.out.trans e)
          have a1 := fun W (e : Ext w5 W) => HA1.out W (HE5.out.trans e)
          have a2 := fun W (e : Ext w5 W) => HA2.out W (HE5.out.trans e)
          have a3 := fun W (e : Ext w5 W) => HA3.out W (HE5.out.trans e)
          have a4 := fun W (e : Ext w5 W) => HA4.out W (HE5.out.trans e)
          have a5 := fun W (e : Ext w5 W) => HA5.out W (HE5.out.trans e)
          obtain ⟨k, hkk⟩ : ∃ k, k = lk % m := ⟨_, rfl⟩
          have hrem : (wrap64 (lk : Int)).tmod (m : Int) = (k : Int) := by
            have e : wrap64 (lk : Int) = (lk : Int) := by have := HLK.out; unfold wrap64; omega
            rw [e, hkk]
            exact (Int.ofNat_tmod lk m).symm
          have hkm : k < m := by rw [hkk]; exact Nat.mod_lt _ (by omega)
          have hk0 : (0 : Int) ≤ (k : Int) := by omega
          have hk1 : (k : Int) < (m : Int) := by omega
          clear hkk
          go_upto_region 18 with fail
          clear hrem hm0 T0
          have hkd : k < ds.length := by rw [← HM.out]; exact hkm
          obtain ⟨x, hxx⟩ : ∃ x, x = ds[k] := ⟨_, rfl⟩
          have hcl := HOW.out.cells k hkd
          rw [← hxx] at hcl
          have HXX := Lib.hid hxx
          clear hxx
          obtain ⟨c0, c1, c2, c3, c4, c5, c6, c7, c8, c9⟩ := hcl w5 E5
          have fr : ∀ W, Ext w5 W → ∀ i, W.frozen? ⟨gd, i, none⟩ = false := fun W e i => (HOW.out.ext e).free i
          have hfd := HFD.out
          subst hfd
          have hv := HVL.out
          have cj := fun W (e : Ext w5 W) => (hcl W e).2.2.2.1
          obtain ⟨qd, hqd⟩ : ∃ qd : Bool, qd = (x.l.nu != (vl : Int)) := ⟨_, rfl⟩
          have T3 : (x.l.nu != (vl : Int)) = qd := hqd.symm
          have HQD := Lib.hid hqd
          clear hqd
          have hr0 := Ext.refl w5
          have fr := Lib.hid fr; have HCL := Lib.hid hcl
          clear c0 c1 c2 c3 c4 c5 c6 c7 c8 c9 hcl a0 a1 a2 a3
          go_upto_region 27 with fail
          refine wp_region_ext (by kernel_rfl) (by kernel_rfl) hr0 ?_
          repeat (first | go_big_quiet_step ((fail)) | quiet_step ((fail)))
          refine wpQuiet_nil ?_
          rintro _ ⟨nq, rfl⟩
          have he6 := nq.ok
          generalize nq.val = w6 at *
          have f6 := fun W (e : Ext w6 W) => fr.out W (he6.trans e)
          have c6 := (HCL.out w6 he6).2.2.2.1
          have E6 := Ext.refl w6
          have a5 := fun W (e : Ext w6 W) => a5 W (he6.trans e)
          obtain ⟨y, hy⟩ : ∃ y : Lv, y = ⟨{ x.l with nu := (vl : Int) }, x.ba, x.bc⟩ := ⟨_, rfl⟩
          have how := (HOW.out.ext he6).setF hkd (j := 3) (by omega) y (.int .i64 (vl : Int)) (by rw [← HXX.out, hy]; rfl) (by rw [← HXX.out, hy]) (by rw [← HXX.out, hy]) (by rw [← HXX.out, hy])
          have he7 := (HE5.out.trans he6).set (p := ⟨gd, k * 10 + 3, none⟩) (Nat.le_trans HEr.out.size hgB) (.int .i64 (vl : Int))
          have HOW7 := Lib.hid how; have HE7 := Lib.hid he7
          clear how he7 he6 T3 cj hr0 a4
          go_upto_region 41 with fail
          clear f6 c6 E6 a5
          generalize World.setCell w6 _ _ = w7 at *
          clear fr
          have hlk : (ds.set k y).length = m := by rw [List.length_set, ← HM.out]
          have hlks : lks (ds.set k y) = S.chain.set k y.l := by rw [← HDS.out]; simp [lks]
          have hxS : x.l = S.chain[k]'(by rw [← HML.out, ← HM.out]; exact hkm) := by
            have h1 : (lks ds)[k]? = some x.l := by rw [HXX.out]; simp [lks, hkd]
            rw [HDS.out, List.getElem?_eq_getElem (by rw [← HML.out, ← HM.out]; exact hkm)] at h1
            exact (Option.some.inj h1).symm
          have hxm : x.l ∈ S.chain := by rw [hxS]; exact List.getElem_mem _
          have hsm := HGS.out.sm x.l hxm
          have hok := HOKS.out x.l hxm
          have hck0 := HGS.out.check
          have hch := checkI_at S.chain 7 0 k hck0 (by rw [← HML.out, ← HM.out]; exact hkm)
          rw [← hxS] at hch
          have hoky : LksOk (ds.set k y) := LksOk.of hlks fun l hl => by
            rcases List.mem_or_eq_of_mem_set hl with hl | rfl
            · exact HOKS.out l hl
            · rw [hy]; exact ⟨hok.op, hok.cu, hok.ki, by show -9223372036854775808 ≤ (vl : Int); omega, by show (vl : Int) ≤ 9223372036854775807; omega, hok.ve0, hok.ve1, hok.da0, hok.da1, hok.un0, hok.un1, hok.bo, hok.tag, hok.ch⟩
          have hck := check_any (some ⟨gd, 0, none⟩) (ds.set k y) dc w7 HOW7.out.links hoky (by rw [hlk]; omega)
          rw [hlk, hlks] at hck
          obtain ⟨ci, hci⟩ : ∃ ci, ci = checkI 7 0 (S.chain.set k y.l) := ⟨_, rfl⟩
          rw [← hci] at hck
          have HCI := Lib.hid hci
          have HCK := Lib.hid hck
          have a4 := fun W (e : Ext w7 W) => HA4.out W (HE7.out.trans e)
          have hset : qd = true → ci = (k : Int) := fun q => by
            rw [hci, checkI_set S.chain y.l 7 0 k hck0 (by rw [← HML.out, ← HM.out]; exact hkm), Nat.zero_add]
            intro e
            have e2 : chainN (lastB 7 (S.chain.take k)) { x.l with nu := (vl : Int) } = chainN (lastB 7 (S.chain.take k)) x.l := by rw [hch]; rw [hy] at e; exact e
            have e3 := chain_nu hsm.op hsm.nu (by omega) e2
            rw [HQD.out, ← e3] at q
            simp at q
          have hun : qd = false → ci = -1 := fun q => by
            rw [hci]
            have : y.l = S.chain[k]'(by rw [← HML.out, ← HM.out]; exact hkm) := by
              rw [← hxS]
              have e3 : x.l.nu = (vl : Int) := by rw [HQD.out, bne_eq_false_iff_eq] at q; exact q
              rw [hy]
              show ({ x.l with nu := (vl : Int) } : Lk) = x.l
              rw [← e3]
            rw [this, List.set_getElem_self]; exact hck0
          have HSET := Lib.hid hset; have HUN := Lib.hid hun
          have E7 := Ext.refl w7
          clear hlk hlks hxS hxm hsm hok hck0 hch hoky hck hci hset hun HQD hy HXX
          cases qd
          · have hc1 := HUN.out rfl
            subst hc1
            go_wp2_with (fail)
            (with_reducible refine HCK.out.mono ?_); rintro e w8 ⟨rfl, he8⟩
            have HE8 := Lib.hid (HE7.out.trans he8)
            clear HCK he8 a4
            go_wp2_with (fail)
            (with_reducible refine (known_any _).mono ?_); rintro e w9 ⟨rfl, he9⟩
            go_wp2_with (fail)
            go_ret
            exact ⟨rfl, (HE.out.trans HE8.out).trans he9⟩
          · have hc1 := HSET.out rfl
            subst hc1
            go_wp2_with (fail)
            (with_reducible refine HCK.out.mono ?_); rintro e w8 ⟨rfl, he8⟩
            have HE8 := Lib.hid (HE7.out.trans he8)
            have E8 := Ext.refl w8
            have a4 := fun W (e : Ext w8 W) => HA4.out W (HE8.out.trans e)
            clear HCK he8
            go_wp2_with (fail)
            (with_reducible refine (known_any _).mono ?_); rintro e w9 ⟨rfl, he9⟩
            go_wp2_with (fail)
            go_ret
            exact ⟨rfl, (HE.out.trans HE8.out).trans he9⟩
  · go_wp2_with (fail)
    (with_reducible refine (known_any _).mono ?_); rintro e w3 ⟨rfl, he3⟩
    go_wp2_with (fail)
    go_ret
    exact ⟨rfl, (HE.out.trans HE12.out).trans he3⟩
set_option maxRecDepth 100000 in
set_option maxHeartbeats 8000000 in
theorem seen_2 (ca ba : Option Addr) (xs : List Op) (bs : List UInt8) (cc bc lk at0 fd vl : Nat) (w : World) (hx : Ops w ca xs) (hb : Byts w ba bs) (hl : xs.length ≤ 9223372036854775807) (hbl : bs.length ≤ 9223372036854775807) (hlk : lk < 256) (hat : at0 < 65536) (hfd : fd = 2) (hvl : vl < 4294967296) :
    Calls Try.prog 8 #[.agg #[.slice ca xs.length cc, .int .u8 lk, .slice ba bs.length bc, .int .u16 at0, .int .u8 fd, .int .u32 vl]] w (Ret (.bool true) w) := by
  have HX := Lib.hid hx; have HB := Lib.hid hb; have HBL := Lib.hid hbl; have HLK := Lib.hid hlk; have HAT := Lib.hid hat; have HFD := Lib.hid hfd; have HVL := Lib.hid hvl
  have hwd := fun W (e : Ext w W) => wide_any ca xs cc W (hx.ext e) hl
  obtain ⟨n, hn⟩ : ∃ n, n = xs.length := ⟨_, rfl⟩
  obtain ⟨nb, hnb⟩ : ∃ nb, nb = bs.length := ⟨_, rfl⟩
  obtain ⟨q, hq⟩ : ∃ q, q = wideB xs := ⟨_, rfl⟩
  have HN := Lib.hid hn; have HQ := Lib.hid hq; have HNB := Lib.hid hnb
  rw [← hn, ← hq] at hwd
  rw [← hn] at hl ⊢
  rw [← hnb]
  rw [← hnb] at HBL
  have HWD := Lib.hid hwd
  clear hx hb hn hq hwd hnb hbl hlk hat hfd hvl
  go_enter Try.func8, Try.ntmps8
  go_upto_region 1 with fail
  generalize hw1 : World.alloc _ _ = w1
  obtain ⟨he, o1, -⟩ := alloc1 hw1
  obtain ⟨a0, a1, a2, a3, a4, a5⟩ := obj_cells6 o1
  have HA0 := Lib.hid a0; have HA1 := Lib.hid a1; have HA2 := Lib.hid a2; have HA3 := Lib.hid a3; have HA4 := Lib.hid a4; have HA5 := Lib.hid a5
  clear hw1 o1 a1 a2 a3 a4 a5
  have E1 := Ext.refl w1
  go_wp2_with (fail)
  (with_reducible refine (HWD.out _ he).mono ?_); rintro e w2 ⟨rfl, he2⟩
  clear HWD E1 a0
  have HE := Lib.hid he; have HE12 := Lib.hid he2
  clear he he2
  cases q
  · have hwf := wideB_false HQ.out.symm
    rw [← HN.out] at hwf
    have hn25 := hwf.1
    have HWF := Lib.hid hwf.2
    clear hwf hl
    go_wp2_with (fail)
    (with_reducible refine (new_f _).mono ?_); rintro e w3 ⟨b, rfl, hv⟩
    have hmm := @run_makeMap Try.prog
    have HV := Lib.hid hv
    clear hv
    go_upto_region 5 with fail
    generalize hw4 : World.alloc _ _ = w4
    have hvm := VM.of HV.out hw4.symm
    obtain ⟨g, hg⟩ : ∃ g, g = w3.heap.size := ⟨_, rfl⟩
    rw [← hg] at hvm ⊢
    have HVM := Lib.hid hvm
    clear hw4 hvm hmm hg HV
    go_wp2_with (fail)
    go_loopw [5] (fun i wr => ∃ k : Nat, k ≤ n ∧ i = .int .i64 k ∧ Hid (∃ S P B, VM w2 wr b g S P B ∧ Good S ∧ PI S P ∧ P.length ≤ k)) (fun i _ => n - (intOf i).toNat)
    case atStart => exact ⟨0, Nat.zero_le _, rfl, ⟨_, _, _, HVM.out, Good.new, PI.new, Nat.le_refl _⟩⟩
    case round =>
      obtain ⟨k, hk, rfl, hh⟩ := hrel
      obtain ⟨S, P, B, hvm, hgs, hpi, hpl⟩ := hh.out
      have HEr := Lib.hid (HE12.out.trans hvm.old)
      have HVMr := Lib.hid hvm; have HGS := Lib.hid hgs; have HPI := Lib.hid hpi; have HPL := Lib.hid hpl
      have a0 := fun W (e : Ext wr W) => HA0.out W (HEr.out.trans e)
      have E0 := Ext.refl wr
      clear hh hvm hgs hpi hpl
      by_cases hlt : k < n
      · have hlx : k < xs.length := by rw [← HN.out]; exact hlt
        obtain ⟨ob, oo, rfl, hc⟩ := HX.out.at k hlx
        obtain ⟨c0, c1, c2, c3, c4, c5, c6, c7, c8⟩ := hc wr (HE.out.trans HEr.out)
        have hok := HX.out.2 k hlx
        have hwo := HWF.out k hlt
        generalize oth xs k = x at *
        have HOK := Lib.hid hok; have HWO := Lib.hid hwo
        clear hc hok hlx hwo
        have hi0 : (0 : Int) ≤ (k : Int) := by omega
        have hi1 : (k : Int) < (n : Int) := by omega
        go_upto_region 9 with fail
        clear c0 c1 c2 c3 c4 c5 c6 c7 c8 a0
        generalize hwa : World.alloc _ _ = wa
        obtain ⟨hea, oa, hsa⟩ := alloc1 hwa
        obtain ⟨c0, c1, c2, c3, c4, c5, c6, c7, c8⟩ := obj_cells9 oa
        have hpl := play_vm (HVMr.out.cap.ext hea) HGS.out x HOK.out
        have HPLAY := Lib.hid hpl; have HOA := Lib.hid oa; have HSA := Lib.hid hsa; have HEA := Lib.hid hea
        have Ea := Ext.refl wa
        clear hwa hpl oa hea E0 hsa
        go_wp2_with fail
        (with_reducible refine HPLAY.out.mono ?_); rintro e wb ⟨ra, rc, rfl, ht, hkp⟩
        have hbb := hkp.block wr.heap.size (Nat.le_refl _) (by rw [HSA.out]; omega)
        rw [HOA.out] at hbb
        obtain ⟨r, hr⟩ : ∃ r, r = playR S x := ⟨_, rfl⟩
        have HRR := Lib.hid hr
        rw [← hr]
        have HTb := Lib.hid ht; have HBb := Lib.hid hbb
        clear c0 c1 c2 c3 c4 c5 c6 c7 c8 Ea HPLAY ht hkp hbb hr
        go_upto_region 10 with fail
        generalize hwc : World.alloc _ _ = wc
        obtain ⟨hec, oc, hsc⟩ := alloc1 hwc
        obtain ⟨c0, c1, c2, c3, c4, c5, c6, c7, c8⟩ := obj_cells9 (hec.block HBb.out)
        obtain ⟨d0, d1, d2, d3⟩ := obj_cells4 oc
        have HTc := Lib.hid (HTb.out.ext hec)
        have Ec := Ext.refl wc
        clear hwc oc hec hsc c3 c4 c5 c6 c7 c8 d0 d1 d2
        by_cases q1 : x.kind = 1
        · have T1 : (x.kind == 1) = true := by simpa using q1
          have herr : r.err = enrolE S x.name x.pass := by rw [HRR.out]; simp [playR, q1]
          by_cases q0 : r.err = 0
          · have T2 : (r.err == 0) = true := by simpa using q0
            rw [q0] at herr
            have hst : stepP S P x = P ++ [(x.name, x.pass)] := by unfold stepP; rw [if_pos ⟨q1, herr.symm⟩]
            have hpi2 := HPI.out.play x HWO.out
            rw [hst] at hpi2
            have hfree : ∀ q ∈ P, q.1 ≠ x.name := fun q hq e => by
              have h1 : (S.find x.name).isSome = true := by
                rw [find_isSome, HPI.out.ids, List.any_eq_true]
                exact ⟨_, List.mem_map.2 ⟨q, hq, rfl⟩, by simpa using e⟩
              have h2 := herr.symm
              unfold enrolE at h2
              rw [h1] at h2
              split at h2
              · cases h2
              · simp at h2
            have hup := run_mapW (HTc.out.store x.name x.pass HOK.out.nm hfree (by have := HPL.out; omega))
            have hup1 := hup.1
            have HU := Lib.hid hup.2; have HPI2 := Lib.hid hpi2
            clear hup hfree hst hpi2 herr
            go_upto_region 7 with fail
            generalize mapW _ _ _ _ _ = wd at *
            clear hup1 c0 c1 c2 d3 Ec
            go_wp2_with (fail)
            go_roundw
            case rel => exact ⟨k + 1, by omega, by go_num, ⟨_, _, _, HU.out, HGS.out.play x, HPI2.out, by rw [List.length_append]; simp; exact HPL.out⟩⟩
            case measure => simp [intOf]; omega
          · have T2 : (r.err == 0) = false := by simpa using q0
            have hst : stepP S P x = P := by unfold stepP; rw [if_neg (fun q => q0 (by rw [herr]; exact q.2))]
            have hpi2 := HPI.out.play x HWO.out
            rw [hst] at hpi2
            have HPI2 := Lib.hid hpi2
            clear hst hpi2 herr
            go_wp2_with (fail)
            go_roundw
            case rel => exact ⟨k + 1, by omega, by go_num, ⟨_, _, _, HTc.out, HGS.out.play x, HPI2.out, by have := HPL.out; omega⟩⟩
            case measure => simp [intOf]; omega
        · have T1 : (x.kind == 1) = false := by simpa using q1
          have hst : stepP S P x = P := by unfold stepP; rw [if_neg (fun q => q1 q.1)]
          have hpi2 := HPI.out.play x HWO.out
          rw [hst] at hpi2
          have HPI2 := Lib.hid hpi2
          clear hst hpi2
          go_wp2_with (fail)
          go_roundw
          case rel => exact ⟨k + 1, by omega, by go_num, ⟨_, _, _, HTc.out, HGS.out.play x, HPI2.out, by have := HPL.out; omega⟩⟩
          case measure => simp [intOf]; omega
      · obtain rfl : k = n := by omega
        have hdm := dump_f HVMr.out.fresh HGS.out
        have HDM := Lib.hid hdm
        have hsh := HGS.out.inv.short
        have hoks := HVMr.out.fresh.oks
        have HOKS := Lib.hid hoks; have HSH := Lib.hid hsh
        clear hdm hsh hoks HPL
        go_wp2_with (fail)
        (with_reducible refine HDM.out.mono ?_); rintro e w5 ⟨da, dc, ds, rfl, he5, hds, hown⟩
        have HVM5 := Lib.hid (HVMr.out.ext he5)
        have HE5 := Lib.hid (HEr.out.trans he5)
        have HDS := Lib.hid hds; have HOW := Lib.hid hown
        have hmlen : ds.length = S.chain.length := by rw [← lks_len, hds]
        obtain ⟨m, hm⟩ : ∃ m, m = ds.length := ⟨_, rfl⟩
        rw [← hm]
        have hm2 : m ≤ 14420 := by rw [hm, hmlen]; exact HSH.out
        have HM := Lib.hid hm; have HML := Lib.hid hmlen
        clear hds hown hm hmlen HDM he5 a0 E0
        by_cases hz : m = 0
        · subst hz
          go_wp2_with (fail)
          (with_reducible refine (known_any _).mono ?_); rintro e w6 ⟨rfl, he6⟩
          go_wp2_with (fail)
          go_ret
          exact ⟨rfl, (HE.out.trans HE5.out).trans he6⟩
        · have hm0 : (0 : Int) < (m : Int) := by omega
          have T0 : ((m : Int) == 0) = false := by simpa using hz
          obtain ⟨gd, hgd, hgB⟩ := HOW.out.head (by rw [← HM.out]; omega)
          subst hgd
          have E5 := Ext.refl w5
          have a0 := fun W (e : Ext w5 W) => HA0.out W (HE5.out.trans e)
          have a1 := fun W (e : Ext w5 W) => HA1.out W (HE5.out.trans e)
          have a2 := fun W (e : Ext w5 W) => HA2.out W (HE5.out.trans e)
          have a3 := fun W (e : Ext w5 W) => HA3.out W (HE5.out.trans e)
          have a4 := fun W (e : Ext w5 W) => HA4.out W (HE5.out.trans e)
          have a5 := fun W (e : Ext w5 W) => HA5.out W (HE5.out.trans e)
          obtain ⟨k, hkk⟩ : ∃ k, k = lk % m := ⟨_, rfl⟩
          have hrem : (wrap64 (lk : Int)).tmod (m : Int) = (k : Int) := by
            have e : wrap64 (lk : Int) = (lk : Int) := by have := HLK.out; unfold wrap64; omega
            rw [e, hkk]
            exact (Int.ofNat_tmod lk m).symm
          have hkm : k < m := by rw [hkk]; exact Nat.mod_lt _ (by omega)
          have hk0 : (0 : Int) ≤ (k : Int) := by omega
          have hk1 : (k : Int) < (m : Int) := by omega
          clear hkk
          go_upto_region 18 with fail
          clear hrem hm0 T0
          have hkd : k < ds.length := by rw [← HM.out]; exact hkm
          obtain ⟨x, hxx⟩ : ∃ x, x = ds[k] := ⟨_, rfl⟩
          have hcl := HOW.out.cells k hkd
          rw [← hxx] at hcl
          have HXX := Lib.hid hxx
          clear hxx
          obtain ⟨c0, c1, c2, c3, c4, c5, c6, c7, c8, c9⟩ := hcl w5 E5
          have fr : ∀ W, Ext w5 W → ∀ i, W.frozen? ⟨gd, i, none⟩ = false := fun W e i => (HOW.out.ext e).free i
          have hfd := HFD.out
          subst hfd
          have hv := HVL.out
          have cj := fun W (e : Ext w5 W) => (hcl W e).2.2.2.2.1
          obtain ⟨qd, hqd⟩ : ∃ qd : Bool, qd = (x.l.ve != (vl : Int)) := ⟨_, rfl⟩
          have T3 : (x.l.ve != (vl : Int)) = qd := hqd.symm
          have HQD := Lib.hid hqd
          clear hqd
          have hr0 := Ext.refl w5
          have fr := Lib.hid fr; have HCL := Lib.hid hcl
          clear c0 c1 c2 c3 c4 c5 c6 c7 c8 c9 hcl a0 a1 a2 a3
          go_upto_region 30 with fail
          refine wp_region_ext (by kernel_rfl) (by kernel_rfl) hr0 ?_
          repeat (first | go_big_quiet_step ((fail)) | quiet_step ((fail)))
          refine wpQuiet_nil ?_
          rintro _ ⟨nq, rfl⟩
          have he6 := nq.ok
          generalize nq.val = w6 at *
          have f6 := fun W (e : Ext w6 W) => fr.out W (he6.trans e)
          have c6 := (HCL.out w6 he6).2.2.2.2.1
          have E6 := Ext.refl w6
          have a5 := fun W (e : Ext w6 W) => a5 W (he6.trans e)
          obtain ⟨y, hy⟩ : ∃ y : Lv, y = ⟨{ x.l with ve := (vl : Int) }, x.ba, x.bc⟩ := ⟨_, rfl⟩
          have how := (HOW.out.ext he6).setF hkd (j := 4) (by omega) y (.int .i64 (vl : Int)) (by rw [← HXX.out, hy]; rfl) (by rw [← HXX.out, hy]) (by rw [← HXX.out, hy]) (by rw [← HXX.out, hy])
          have he7 := (HE5.out.trans he6).set (p := ⟨gd, k * 10 + 4, none⟩) (Nat.le_trans HEr.out.size hgB) (.int .i64 (vl : Int))
          have HOW7 := Lib.hid how; have HE7 := Lib.hid he7
          clear how he7 he6 T3 cj hr0 a4
          go_upto_region 41 with fail
          clear f6 c6 E6 a5
          generalize World.setCell w6 _ _ = w7 at *
          clear fr
          have hlk : (ds.set k y).length = m := by rw [List.length_set, ← HM.out]
          have hlks : lks (ds.set k y) = S.chain.set k y.l := by rw [← HDS.out]; simp [lks]
          have hxS : x.l = S.chain[k]'(by rw [← HML.out, ← HM.out]; exact hkm) := by
            have h1 : (lks ds)[k]? = some x.l := by rw [HXX.out]; simp [lks, hkd]
            rw [HDS.out, List.getElem?_eq_getElem (by rw [← HML.out, ← HM.out]; exact hkm)] at h1
            exact (Option.some.inj h1).symm
          have hxm : x.l ∈ S.chain := by rw [hxS]; exact List.getElem_mem _
          have hsm := HGS.out.sm x.l hxm
          have hok := HOKS.out x.l hxm
          have hck0 := HGS.out.check
          have hch := checkI_at S.chain 7 0 k hck0 (by rw [← HML.out, ← HM.out]; exact hkm)
          rw [← hxS] at hch
          have hoky : LksOk (ds.set k y) := LksOk.of hlks fun l hl => by
            rcases List.mem_or_eq_of_mem_set hl with hl | rfl
            · exact HOKS.out l hl
            · rw [hy]; exact ⟨hok.op, hok.cu, hok.ki, hok.nu0, hok.nu1, by show -9223372036854775808 ≤ (vl : Int); omega, by show (vl : Int) ≤ 9223372036854775807; omega, hok.da0, hok.da1, hok.un0, hok.un1, hok.bo, hok.tag, hok.ch⟩
          have hck := check_any (some ⟨gd, 0, none⟩) (ds.set k y) dc w7 HOW7.out.links hoky (by rw [hlk]; omega)
          rw [hlk, hlks] at hck
          obtain ⟨ci, hci⟩ : ∃ ci, ci = checkI 7 0 (S.chain.set k y.l) := ⟨_, rfl⟩
          rw [← hci] at hck
          have HCI := Lib.hid hci
          have HCK := Lib.hid hck
          have a4 := fun W (e : Ext w7 W) => HA4.out W (HE7.out.trans e)
          have hset : qd = true → ci = (k : Int) := fun q => by
            rw [hci, checkI_set S.chain y.l 7 0 k hck0 (by rw [← HML.out, ← HM.out]; exact hkm), Nat.zero_add]
            intro e
            have e2 : chainN (lastB 7 (S.chain.take k)) { x.l with ve := (vl : Int) } = chainN (lastB 7 (S.chain.take k)) x.l := by rw [hch]; rw [hy] at e; exact e
            have e3 := chain_ve hsm.op hsm.ve (by omega) e2
            rw [HQD.out, ← e3] at q
            simp at q
          have hun : qd = false → ci = -1 := fun q => by
            rw [hci]
            have : y.l = S.chain[k]'(by rw [← HML.out, ← HM.out]; exact hkm) := by
              rw [← hxS]
              have e3 : x.l.ve = (vl : Int) := by rw [HQD.out, bne_eq_false_iff_eq] at q; exact q
              rw [hy]
              show ({ x.l with ve := (vl : Int) } : Lk) = x.l
              rw [← e3]
            rw [this, List.set_getElem_self]; exact hck0
          have HSET := Lib.hid hset; have HUN := Lib.hid hun
          have E7 := Ext.refl w7
          clear hlk hlks hxS hxm hsm hok hck0 hch hoky hck hci hset hun HQD hy HXX
          cases qd
          · have hc1 := HUN.out rfl
            subst hc1
            go_wp2_with (fail)
            (with_reducible refine HCK.out.mono ?_); rintro e w8 ⟨rfl, he8⟩
            have HE8 := Lib.hid (HE7.out.trans he8)
            clear HCK he8 a4
            go_wp2_with (fail)
            (with_reducible refine (known_any _).mono ?_); rintro e w9 ⟨rfl, he9⟩
            go_wp2_with (fail)
            go_ret
            exact ⟨rfl, (HE.out.trans HE8.out).trans he9⟩
          · have hc1 := HSET.out rfl
            subst hc1
            go_wp2_with (fail)
            (with_reducible refine HCK.out.mono ?_); rintro e w8 ⟨rfl, he8⟩
            have HE8 := Lib.hid (HE7.out.trans he8)
            have E8 := Ext.refl w8
            have a4 := fun W (e : Ext w8 W) => HA4.out W (HE8.out.trans e)
            clear HCK he8
            go_wp2_with (fail)
            (with_reducible refine (known_any _).mono ?_); rintro e w9 ⟨rfl, he9⟩
            go_wp2_with (fail)
            go_ret
            exact ⟨rfl, (HE.out.trans HE8.out).trans he9⟩
  · go_wp2_with (fail)
    (with_reducible refine (known_any _).mono ?_); rintro e w3 ⟨rfl, he3⟩
    go_wp2_with (fail)
    go_ret
    exact ⟨rfl, (HE.out.trans HE12.out).trans he3⟩
set_option maxRecDepth 100000 in
set_option maxHeartbeats 8000000 in
theorem seen_3 (ca ba : Option Addr) (xs : List Op) (bs : List UInt8) (cc bc lk at0 fd vl : Nat) (w : World) (hx : Ops w ca xs) (hb : Byts w ba bs) (hl : xs.length ≤ 9223372036854775807) (hbl : bs.length ≤ 9223372036854775807) (hlk : lk < 256) (hat : at0 < 65536) (hfd : fd = 3) (hvl : vl < 4294967296) :
    Calls Try.prog 8 #[.agg #[.slice ca xs.length cc, .int .u8 lk, .slice ba bs.length bc, .int .u16 at0, .int .u8 fd, .int .u32 vl]] w (Ret (.bool true) w) := by
  have HX := Lib.hid hx; have HB := Lib.hid hb; have HBL := Lib.hid hbl; have HLK := Lib.hid hlk; have HAT := Lib.hid hat; have HFD := Lib.hid hfd; have HVL := Lib.hid hvl
  have hwd := fun W (e : Ext w W) => wide_any ca xs cc W (hx.ext e) hl
  obtain ⟨n, hn⟩ : ∃ n, n = xs.length := ⟨_, rfl⟩
  obtain ⟨nb, hnb⟩ : ∃ nb, nb = bs.length := ⟨_, rfl⟩
  obtain ⟨q, hq⟩ : ∃ q, q = wideB xs := ⟨_, rfl⟩
  have HN := Lib.hid hn; have HQ := Lib.hid hq; have HNB := Lib.hid hnb
  rw [← hn, ← hq] at hwd
  rw [← hn] at hl ⊢
  rw [← hnb]
  rw [← hnb] at HBL
  have HWD := Lib.hid hwd
  clear hx hb hn hq hwd hnb hbl hlk hat hfd hvl
  go_enter Try.func8, Try.ntmps8
  go_upto_region 1 with fail
  generalize hw1 : World.alloc _ _ = w1
  obtain ⟨he, o1, -⟩ := alloc1 hw1
  obtain ⟨a0, a1, a2, a3, a4, a5⟩ := obj_cells6 o1
  have HA0 := Lib.hid a0; have HA1 := Lib.hid a1; have HA2 := Lib.hid a2; have HA3 := Lib.hid a3; have HA4 := Lib.hid a4; have HA5 := Lib.hid a5
  clear hw1 o1 a1 a2 a3 a4 a5
  have E1 := Ext.refl w1
  go_wp2_with (fail)
  (with_reducible refine (HWD.out _ he).mono ?_); rintro e w2 ⟨rfl, he2⟩
  clear HWD E1 a0
  have HE := Lib.hid he; have HE12 := Lib.hid he2
  clear he he2
  cases q
  · have hwf := wideB_false HQ.out.symm
    rw [← HN.out] at hwf
    have hn25 := hwf.1
    have HWF := Lib.hid hwf.2
    clear hwf hl
    go_wp2_with (fail)
    (with_reducible refine (new_f _).mono ?_); rintro e w3 ⟨b, rfl, hv⟩
    have hmm := @run_makeMap Try.prog
    have HV := Lib.hid hv
    clear hv
    go_upto_region 5 with fail
    generalize hw4 : World.alloc _ _ = w4
    have hvm := VM.of HV.out hw4.symm
    obtain ⟨g, hg⟩ : ∃ g, g = w3.heap.size := ⟨_, rfl⟩
    rw [← hg] at hvm ⊢
    have HVM := Lib.hid hvm
    clear hw4 hvm hmm hg HV
    go_wp2_with (fail)
    go_loopw [5] (fun i wr => ∃ k : Nat, k ≤ n ∧ i = .int .i64 k ∧ Hid (∃ S P B, VM w2 wr b g S P B ∧ Good S ∧ PI S P ∧ P.length ≤ k)) (fun i _ => n - (intOf i).toNat)
    case atStart => exact ⟨0, Nat.zero_le _, rfl, ⟨_, _, _, HVM.out, Good.new, PI.new, Nat.le_refl _⟩⟩
    case round =>
      obtain ⟨k, hk, rfl, hh⟩ := hrel
      obtain ⟨S, P, B, hvm, hgs, hpi, hpl⟩ := hh.out
      have HEr := Lib.hid (HE12.out.trans hvm.old)
      have HVMr := Lib.hid hvm; have HGS := Lib.hid hgs; have HPI := Lib.hid hpi; have HPL := Lib.hid hpl
      have a0 := fun W (e : Ext wr W) => HA0.out W (HEr.out.trans e)
      have E0 := Ext.refl wr
      clear hh hvm hgs hpi hpl
      by_cases hlt : k < n
      · have hlx : k < xs.length := by rw [← HN.out]; exact hlt
        obtain ⟨ob, oo, rfl, hc⟩ := HX.out.at k hlx
        obtain ⟨c0, c1, c2, c3, c4, c5, c6, c7, c8⟩ := hc wr (HE.out.trans HEr.out)
        have hok := HX.out.2 k hlx
        have hwo := HWF.out k hlt
        generalize oth xs k = x at *
        have HOK := Lib.hid hok; have HWO := Lib.hid hwo
        clear hc hok hlx hwo
        have hi0 : (0 : Int) ≤ (k : Int) := by omega
        have hi1 : (k : Int) < (n : Int) := by omega
        go_upto_region 9 with fail
        clear c0 c1 c2 c3 c4 c5 c6 c7 c8 a0
        generalize hwa : World.alloc _ _ = wa
        obtain ⟨hea, oa, hsa⟩ := alloc1 hwa
        obtain ⟨c0, c1, c2, c3, c4, c5, c6, c7, c8⟩ := obj_cells9 oa
        have hpl := play_vm (HVMr.out.cap.ext hea) HGS.out x HOK.out
        have HPLAY := Lib.hid hpl; have HOA := Lib.hid oa; have HSA := Lib.hid hsa; have HEA := Lib.hid hea
        have Ea := Ext.refl wa
        clear hwa hpl oa hea E0 hsa
        go_wp2_with fail
        (with_reducible refine HPLAY.out.mono ?_); rintro e wb ⟨ra, rc, rfl, ht, hkp⟩
        have hbb := hkp.block wr.heap.size (Nat.le_refl _) (by rw [HSA.out]; omega)
        rw [HOA.out] at hbb
        obtain ⟨r, hr⟩ : ∃ r, r = playR S x := ⟨_, rfl⟩
        have HRR := Lib.hid hr
        rw [← hr]
        have HTb := Lib.hid ht; have HBb := Lib.hid hbb
        clear c0 c1 c2 c3 c4 c5 c6 c7 c8 Ea HPLAY ht hkp hbb hr
        go_upto_region 10 with fail
        generalize hwc : World.alloc _ _ = wc
        obtain ⟨hec, oc, hsc⟩ := alloc1 hwc
        obtain ⟨c0, c1, c2, c3, c4, c5, c6, c7, c8⟩ := obj_cells9 (hec.block HBb.out)
        obtain ⟨d0, d1, d2, d3⟩ := obj_cells4 oc
        have HTc := Lib.hid (HTb.out.ext hec)
        have Ec := Ext.refl wc
        clear hwc oc hec hsc c3 c4 c5 c6 c7 c8 d0 d1 d2
        by_cases q1 : x.kind = 1
        · have T1 : (x.kind == 1) = true := by simpa using q1
          have herr : r.err = enrolE S x.name x.pass := by rw [HRR.out]; simp [playR, q1]
          by_cases q0 : r.err = 0
          · have T2 : (r.err == 0) = true := by simpa using q0
            rw [q0] at herr
            have hst : stepP S P x = P ++ [(x.name, x.pass)] := by unfold stepP; rw [if_pos ⟨q1, herr.symm⟩]
            have hpi2 := HPI.out.play x HWO.out
            rw [hst] at hpi2
            have hfree : ∀ q ∈ P, q.1 ≠ x.name := fun q hq e => by
              have h1 : (S.find x.name).isSome = true := by
                rw [find_isSome, HPI.out.ids, List.any_eq_true]
                exact ⟨_, List.mem_map.2 ⟨q, hq, rfl⟩, by simpa using e⟩
              have h2 := herr.symm
              unfold enrolE at h2
              rw [h1] at h2
              split at h2
              · cases h2
              · simp at h2
            have hup := run_mapW (HTc.out.store x.name x.pass HOK.out.nm hfree (by have := HPL.out; omega))
            have hup1 := hup.1
            have HU := Lib.hid hup.2; have HPI2 := Lib.hid hpi2
            clear hup hfree hst hpi2 herr
            go_upto_region 7 with fail
            generalize mapW _ _ _ _ _ = wd at *
            clear hup1 c0 c1 c2 d3 Ec
            go_wp2_with (fail)
            go_roundw
            case rel => exact ⟨k + 1, by omega, by go_num, ⟨_, _, _, HU.out, HGS.out.play x, HPI2.out, by rw [List.length_append]; simp; exact HPL.out⟩⟩
            case measure => simp [intOf]; omega
          · have T2 : (r.err == 0) = false := by simpa using q0
            have hst : stepP S P x = P := by unfold stepP; rw [if_neg (fun q => q0 (by rw [herr]; exact q.2))]
            have hpi2 := HPI.out.play x HWO.out
            rw [hst] at hpi2
            have HPI2 := Lib.hid hpi2
            clear hst hpi2 herr
            go_wp2_with (fail)
            go_roundw
            case rel => exact ⟨k + 1, by omega, by go_num, ⟨_, _, _, HTc.out, HGS.out.play x, HPI2.out, by have := HPL.out; omega⟩⟩
            case measure => simp [intOf]; omega
        · have T1 : (x.kind == 1) = false := by simpa using q1
          have hst : stepP S P x = P := by unfold stepP; rw [if_neg (fun q => q1 q.1)]
          have hpi2 := HPI.out.play x HWO.out
          rw [hst] at hpi2
          have HPI2 := Lib.hid hpi2
          clear hst hpi2
          go_wp2_with (fail)
          go_roundw
          case rel => exact ⟨k + 1, by omega, by go_num, ⟨_, _, _, HTc.out, HGS.out.play x, HPI2.out, by have := HPL.out; omega⟩⟩
          case measure => simp [intOf]; omega
      · obtain rfl : k = n := by omega
        have hdm := dump_f HVMr.out.fresh HGS.out
        have HDM := Lib.hid hdm
        have hsh := HGS.out.inv.short
        have hoks := HVMr.out.fresh.oks
        have HOKS := Lib.hid hoks; have HSH := Lib.hid hsh
        clear hdm hsh hoks HPL
        go_wp2_with (fail)
        (with_reducible refine HDM.out.mono ?_); rintro e w5 ⟨da, dc, ds, rfl, he5, hds, hown⟩
        have HVM5 := Lib.hid (HVMr.out.ext he5)
        have HE5 := Lib.hid (HEr.out.trans he5)
        have HDS := Lib.hid hds; have HOW := Lib.hid hown
        have hmlen : ds.length = S.chain.length := by rw [← lks_len, hds]
        obtain ⟨m, hm⟩ : ∃ m, m = ds.length := ⟨_, rfl⟩
        rw [← hm]
        have hm2 : m ≤ 14420 := by rw [hm, hmlen]; exact HSH.out
        have HM := Lib.hid hm; have HML := Lib.hid hmlen
        clear hds hown hm hmlen HDM he5 a0 E0
        by_cases hz : m = 0
        · subst hz
          go_wp2_with (fail)
          (with_reducible refine (known_any _).mono ?_); rintro e w6 ⟨rfl, he6⟩
          go_wp2_with (fail)
          go_ret
          exact ⟨rfl, (HE.out.trans HE5.out).trans he6⟩
        · have hm0 : (0 : Int) < (m : Int) := by omega
          have T0 : ((m : Int) == 0) = false := by simpa using hz
          obtain ⟨gd, hgd, hgB⟩ := HOW.out.head (by rw [← HM.out]; omega)
          subst hgd
          have E5 := Ext.refl w5
          have a0 := fun W (e : Ext w5 W) => HA0.out W (HE5.out.trans e)
          have a1 := fun W (e : Ext w5 W) => HA1.out W (HE5.out.trans e)
          have a2 := fun W (e : Ext w5 W) => HA2.out W (HE5.out.trans e)
          have a3 := fun W (e : Ext w5 W) => HA3.out W (HE5.out.trans e)
          have a4 := fun W (e : Ext w5 W) => HA4.out W (HE5.out.trans e)
          have a5 := fun W (e : Ext w5 W) => HA5.out W (HE5.out.trans e)
          obtain ⟨k, hkk⟩ : ∃ k, k = lk % m := ⟨_, rfl⟩
          have hrem : (wrap64 (lk : Int)).tmod (m : Int) = (k : Int) := by
            have e : wrap64 (lk : Int) = (lk : Int) := by have := HLK.out; unfold wrap64; omega
            rw [e, hkk]
            exact (Int.ofNat_tmod lk m).symm
          have hkm : k < m := by rw [hkk]; exact Nat.mod_lt _ (by omega)
          have hk0 : (0 : Int) ≤ (k : Int) := by omega
          have hk1 : (k : Int) < (m : Int) := by omega
          clear hkk
          go_upto_region 18 with fail
          clear hrem hm0 T0
          have hkd : k < ds.length := by rw [← HM.out]; exact hkm
          obtain ⟨x, hxx⟩ : ∃ x, x = ds[k] := ⟨_, rfl⟩
          have hcl := HOW.out.cells k hkd
          rw [← hxx] at hcl
          have HXX := Lib.hid hxx
          clear hxx
          obtain ⟨c0, c1, c2, c3, c4, c5, c6, c7, c8, c9⟩ := hcl w5 E5
          have fr : ∀ W, Ext w5 W → ∀ i, W.frozen? ⟨gd, i, none⟩ = false := fun W e i => (HOW.out.ext e).free i
          have hfd := HFD.out
          subst hfd
          have hv := HVL.out
          have cj := fun W (e : Ext w5 W) => (hcl W e).2.2.2.2.2.1
          obtain ⟨qd, hqd⟩ : ∃ qd : Bool, qd = (x.l.da != (vl : Int)) := ⟨_, rfl⟩
          have T3 : (x.l.da != (vl : Int)) = qd := hqd.symm
          have HQD := Lib.hid hqd
          clear hqd
          have hr0 := Ext.refl w5
          have fr := Lib.hid fr; have HCL := Lib.hid hcl
          clear c0 c1 c2 c3 c4 c5 c6 c7 c8 c9 hcl a0 a1 a2 a3
          go_upto_region 33 with fail
          refine wp_region_ext (by kernel_rfl) (by kernel_rfl) hr0 ?_
          repeat (first | go_big_quiet_step ((fail)) | quiet_step ((fail)))
          refine wpQuiet_nil ?_
          rintro _ ⟨nq, rfl⟩
          have he6 := nq.ok
          generalize nq.val = w6 at *
          have f6 := fun W (e : Ext w6 W) => fr.out W (he6.trans e)
          have c6 := (HCL.out w6 he6).2.2.2.2.2.1
          have E6 := Ext.refl w6
          have a5 := fun W (e : Ext w6 W) => a5 W (he6.trans e)
          obtain ⟨y, hy⟩ : ∃ y : Lv, y = ⟨{ x.l with da := (vl : Int) }, x.ba, x.bc⟩ := ⟨_, rfl⟩
          have how := (HOW.out.ext he6).setF hkd (j := 5) (by omega) y (.int .i64 (vl : Int)) (by rw [← HXX.out, hy]; rfl) (by rw [← HXX.out, hy]) (by rw [← HXX.out, hy]) (by rw [← HXX.out, hy])
          have he7 := (HE5.out.trans he6).set (p := ⟨gd, k * 10 + 5, none⟩) (Nat.le_trans HEr.out.size hgB) (.int .i64 (vl : Int))
          have HOW7 := Lib.hid how; have HE7 := Lib.hid he7
          clear how he7 he6 T3 cj hr0 a4
          go_upto_region 41 with fail
          clear f6 c6 E6 a5
          generalize World.setCell w6 _ _ = w7 at *
          clear fr
          have hlk : (ds.set k y).length = m := by rw [List.length_set, ← HM.out]
          have hlks : lks (ds.set k y) = S.chain.set k y.l := by rw [← HDS.out]; simp [lks]
          have hxS : x.l = S.chain[k]'(by rw [← HML.out, ← HM.out]; exact hkm) := by
            have h1 : (lks ds)[k]? = some x.l := by rw [HXX.out]; simp [lks, hkd]
            rw [HDS.out, List.getElem?_eq_getElem (by rw [← HML.out, ← HM.out]; exact hkm)] at h1
            exact (Option.some.inj h1).symm
          have hxm : x.l ∈ S.chain := by rw [hxS]; exact List.getElem_mem _
          have hsm := HGS.out.sm x.l hxm
          have hok := HOKS.out x.l hxm
          have hck0 := HGS.out.check
          have hch := checkI_at S.chain 7 0 k hck0 (by rw [← HML.out, ← HM.out]; exact hkm)
          rw [← hxS] at hch
          have hoky : LksOk (ds.set k y) := LksOk.of hlks fun l hl => by
            rcases List.mem_or_eq_of_mem_set hl with hl | rfl
            · exact HOKS.out l hl
            · rw [hy]; exact ⟨hok.op, hok.cu, hok.ki, hok.nu0, hok.nu1, hok.ve0, hok.ve1, by show -9223372036854775808 ≤ (vl : Int); omega, by show (vl : Int) ≤ 9223372036854775807; omega, hok.un0, hok.un1, hok.bo, hok.tag, hok.ch⟩
          have hck := check_any (some ⟨gd, 0, none⟩) (ds.set k y) dc w7 HOW7.out.links hoky (by rw [hlk]; omega)
          rw [hlk, hlks] at hck
          obtain ⟨ci, hci⟩ : ∃ ci, ci = checkI 7 0 (S.chain.set k y.l) := ⟨_, rfl⟩
          rw [← hci] at hck
          have HCI := Lib.hid hci
          have HCK := Lib.hid hck
          have a4 := fun W (e : Ext w7 W) => HA4.out W (HE7.out.trans e)
          have hset : qd = true → ci = (k : Int) := fun q => by
            rw [hci, checkI_set S.chain y.l 7 0 k hck0 (by rw [← HML.out, ← HM.out]; exact hkm), Nat.zero_add]
            intro e
            have e2 : chainN (lastB 7 (S.chain.take k)) { x.l with da := (vl : Int) } = chainN (lastB 7 (S.chain.take k)) x.l := by rw [hch]; rw [hy] at e; exact e
            have e3 := chain_da hsm.op hsm.da (by omega) e2
            rw [HQD.out, ← e3] at q
            simp at q
          have hun : qd = false → ci = -1 := fun q => by
            rw [hci]
            have : y.l = S.chain[k]'(by rw [← HML.out, ← HM.out]; exact hkm) := by
              rw [← hxS]
              have e3 : x.l.da = (vl : Int) := by rw [HQD.out, bne_eq_false_iff_eq] at q; exact q
              rw [hy]
              show ({ x.l with da := (vl : Int) } : Lk) = x.l
              rw [← e3]
            rw [this, List.set_getElem_self]; exact hck0
          have HSET := Lib.hid hset; have HUN := Lib.hid hun
          have E7 := Ext.refl w7
          clear hlk hlks hxS hxm hsm hok hck0 hch hoky hck hci hset hun HQD hy HXX
          cases qd
          · have hc1 := HUN.out rfl
            subst hc1
            go_wp2_with (fail)
            (with_reducible refine HCK.out.mono ?_); rintro e w8 ⟨rfl, he8⟩
            have HE8 := Lib.hid (HE7.out.trans he8)
            clear HCK he8 a4
            go_wp2_with (fail)
            (with_reducible refine (known_any _).mono ?_); rintro e w9 ⟨rfl, he9⟩
            go_wp2_with (fail)
            go_ret
            exact ⟨rfl, (HE.out.trans HE8.out).trans he9⟩
          · have hc1 := HSET.out rfl
            subst hc1
            go_wp2_with (fail)
            (with_reducible refine HCK.out.mono ?_); rintro e w8 ⟨rfl, he8⟩
            have HE8 := Lib.hid (HE7.out.trans he8)
            have E8 := Ext.refl w8
            have a4 := fun W (e : Ext w8 W) => HA4.out W (HE8.out.trans e)
            clear HCK he8
            go_wp2_with (fail)
            (with_reducible refine (known_any _).mono ?_); rintro e w9 ⟨rfl, he9⟩
            go_wp2_with (fail)
            go_ret
            exact ⟨rfl, (HE.out.trans HE8.out).trans he9⟩
  · go_wp2_with (fail)
    (with_reducible refine (known_any _).mono ?_); rintro e w3 ⟨rfl, he3⟩
    go_wp2_with (fail)
    go_ret
    exact ⟨rfl, (HE.out.trans HE12.out).trans he3⟩
set_option maxRecDepth 100000 in
set_option maxHeartbeats 8000000 in
theorem seen_4 (ca ba : Option Addr) (xs : List Op) (bs : List UInt8) (cc bc lk at0 fd vl : Nat) (w : World) (hx : Ops w ca xs) (hb : Byts w ba bs) (hl : xs.length ≤ 9223372036854775807) (hbl : bs.length ≤ 9223372036854775807) (hlk : lk < 256) (hat : at0 < 65536) (hfd : fd = 4) (hvl : vl < 4294967296) :
    Calls Try.prog 8 #[.agg #[.slice ca xs.length cc, .int .u8 lk, .slice ba bs.length bc, .int .u16 at0, .int .u8 fd, .int .u32 vl]] w (Ret (.bool true) w) := by
  have HX := Lib.hid hx; have HB := Lib.hid hb; have HBL := Lib.hid hbl; have HLK := Lib.hid hlk; have HAT := Lib.hid hat; have HFD := Lib.hid hfd; have HVL := Lib.hid hvl
  have hwd := fun W (e : Ext w W) => wide_any ca xs cc W (hx.ext e) hl
  obtain ⟨n, hn⟩ : ∃ n, n = xs.length := ⟨_, rfl⟩
  obtain ⟨nb, hnb⟩ : ∃ nb, nb = bs.length := ⟨_, rfl⟩
  obtain ⟨q, hq⟩ : ∃ q, q = wideB xs := ⟨_, rfl⟩
  have HN := Lib.hid hn; have HQ := Lib.hid hq; have HNB := Lib.hid hnb
  rw [← hn, ← hq] at hwd
  rw [← hn] at hl ⊢
  rw [← hnb]
  rw [← hnb] at HBL
  have HWD := Lib.hid hwd
  clear hx hb hn hq hwd hnb hbl hlk hat hfd hvl
  go_enter Try.func8, Try.ntmps8
  go_upto_region 1 with fail
  generalize hw1 : World.alloc _ _ = w1
  obtain ⟨he, o1, -⟩ := alloc1 hw1
  obtain ⟨a0, a1, a2, a3, a4, a5⟩ := obj_cells6 o1
  have HA0 := Lib.hid a0; have HA1 := Lib.hid a1; have HA2 := Lib.hid a2; have HA3 := Lib.hid a3; have HA4 := Lib.hid a4; have HA5 := Lib.hid a5
  clear hw1 o1 a1 a2 a3 a4 a5
  have E1 := Ext.refl w1
  go_wp2_with (fail)
  (with_reducible refine (HWD.out _ he).mono ?_); rintro e w2 ⟨rfl, he2⟩
  clear HWD E1 a0
  have HE := Lib.hid he; have HE12 := Lib.hid he2
  clear he he2
  cases q
  · have hwf := wideB_false HQ.out.symm
    rw [← HN.out] at hwf
    have hn25 := hwf.1
    have HWF := Lib.hid hwf.2
    clear hwf hl
    go_wp2_with (fail)
    (with_reducible refine (new_f _).mono ?_); rintro e w3 ⟨b, rfl, hv⟩
    have hmm := @run_makeMap Try.prog
    have HV := Lib.hid hv
    clear hv
    go_upto_region 5 with fail
    generalize hw4 : World.alloc _ _ = w4
    have hvm := VM.of HV.out hw4.symm
    obtain ⟨g, hg⟩ : ∃ g, g = w3.heap.size := ⟨_, rfl⟩
    rw [← hg] at hvm ⊢
    have HVM := Lib.hid hvm
    clear hw4 hvm hmm hg HV
    go_wp2_with (fail)
    go_loopw [5] (fun i wr => ∃ k : Nat, k ≤ n ∧ i = .int .i64 k ∧ Hid (∃ S P B, VM w2 wr b g S P B ∧ Good S ∧ PI S P ∧ P.length ≤ k)) (fun i _ => n - (intOf i).toNat)
    case atStart => exact ⟨0, Nat.zero_le _, rfl, ⟨_, _, _, HVM.out, Good.new, PI.new, Nat.le_refl _⟩⟩
    case round =>
      obtain ⟨k, hk, rfl, hh⟩ := hrel
      obtain ⟨S, P, B, hvm, hgs, hpi, hpl⟩ := hh.out
      have HEr := Lib.hid (HE12.out.trans hvm.old)
      have HVMr := Lib.hid hvm; have HGS := Lib.hid hgs; have HPI := Lib.hid hpi; have HPL := Lib.hid hpl
      have a0 := fun W (e : Ext wr W) => HA0.out W (HEr.out.trans e)
      have E0 := Ext.refl wr
      clear hh hvm hgs hpi hpl
      by_cases hlt : k < n
      · have hlx : k < xs.length := by rw [← HN.out]; exact hlt
        obtain ⟨ob, oo, rfl, hc⟩ := HX.out.at k hlx
        obtain ⟨c0, c1, c2, c3, c4, c5, c6, c7, c8⟩ := hc wr (HE.out.trans HEr.out)
        have hok := HX.out.2 k hlx
        have hwo := HWF.out k hlt
        generalize oth xs k = x at *
        have HOK := Lib.hid hok; have HWO := Lib.hid hwo
        clear hc hok hlx hwo
        have hi0 : (0 : Int) ≤ (k : Int) := by omega
        have hi1 : (k : Int) < (n : Int) := by omega
        go_upto_region 9 with fail
        clear c0 c1 c2 c3 c4 c5 c6 c7 c8 a0
        generalize hwa : World.alloc _ _ = wa
        obtain ⟨hea, oa, hsa⟩ := alloc1 hwa
        obtain ⟨c0, c1, c2, c3, c4, c5, c6, c7, c8⟩ := obj_cells9 oa
        have hpl := play_vm (HVMr.out.cap.ext hea) HGS.out x HOK.out
        have HPLAY := Lib.hid hpl; have HOA := Lib.hid oa; have HSA := Lib.hid hsa; have HEA := Lib.hid hea
        have Ea := Ext.refl wa
        clear hwa hpl oa hea E0 hsa
        go_wp2_with fail
        (with_reducible refine HPLAY.out.mono ?_); rintro e wb ⟨ra, rc, rfl, ht, hkp⟩
        have hbb := hkp.block wr.heap.size (Nat.le_refl _) (by rw [HSA.out]; omega)
        rw [HOA.out] at hbb
        obtain ⟨r, hr⟩ : ∃ r, r = playR S x := ⟨_, rfl⟩
        have HRR := Lib.hid hr
        rw [← hr]
        have HTb := Lib.hid ht; have HBb := Lib.hid hbb
        clear c0 c1 c2 c3 c4 c5 c6 c7 c8 Ea HPLAY ht hkp hbb hr
        go_upto_region 10 with fail
        generalize hwc : World.alloc _ _ = wc
        obtain ⟨hec, oc, hsc⟩ := alloc1 hwc
        obtain ⟨c0, c1, c2, c3, c4, c5, c6, c7, c8⟩ := obj_cells9 (hec.block HBb.out)
        obtain ⟨d0, d1, d2, d3⟩ := obj_cells4 oc
        have HTc := Lib.hid (HTb.out.ext hec)
        have Ec := Ext.refl wc
        clear hwc oc hec hsc c3 c4 c5 c6 c7 c8 d0 d1 d2
        by_cases q1 : x.kind = 1
        · have T1 : (x.kind == 1) = true := by simpa using q1
          have herr : r.err = enrolE S x.name x.pass := by rw [HRR.out]; simp [playR, q1]
          by_cases q0 : r.err = 0
          · have T2 : (r.err == 0) = true := by simpa using q0
            rw [q0] at herr
            have hst : stepP S P x = P ++ [(x.name, x.pass)] := by unfold stepP; rw [if_pos ⟨q1, herr.symm⟩]
            have hpi2 := HPI.out.play x HWO.out
            rw [hst] at hpi2
            have hfree : ∀ q ∈ P, q.1 ≠ x.name := fun q hq e => by
              have h1 : (S.find x.name).isSome = true := by
                rw [find_isSome, HPI.out.ids, List.any_eq_true]
                exact ⟨_, List.mem_map.2 ⟨q, hq, rfl⟩, by simpa using e⟩
              have h2 := herr.symm
              unfold enrolE at h2
              rw [h1] at h2
              split at h2
              · cases h2
              · simp at h2
            have hup := run_mapW (HTc.out.store x.name x.pass HOK.out.nm hfree (by have := HPL.out; omega))
            have hup1 := hup.1
            have HU := Lib.hid hup.2; have HPI2 := Lib.hid hpi2
            clear hup hfree hst hpi2 herr
            go_upto_region 7 with fail
            generalize mapW _ _ _ _ _ = wd at *
            clear hup1 c0 c1 c2 d3 Ec
            go_wp2_with (fail)
            go_roundw
            case rel => exact ⟨k + 1, by omega, by go_num, ⟨_, _, _, HU.out, HGS.out.play x, HPI2.out, by rw [List.length_append]; simp; exact HPL.out⟩⟩
            case measure => simp [intOf]; omega
          · have T2 : (r.err == 0) = false := by simpa using q0
            have hst : stepP S P x = P := by unfold stepP; rw [if_neg (fun q => q0 (by rw [herr]; exact q.2))]
            have hpi2 := HPI.out.play x HWO.out
            rw [hst] at hpi2
            have HPI2 := Lib.hid hpi2
            clear hst hpi2 herr
            go_wp2_with (fail)
            go_roundw
            case rel => exact ⟨k + 1, by omega, by go_num, ⟨_, _, _, HTc.out, HGS.out.play x, HPI2.out, by have := HPL.out; omega⟩⟩
            case measure => simp [intOf]; omega
        · have T1 : (x.kind == 1) = false := by simpa using q1
          have hst : stepP S P x = P := by unfold stepP; rw [if_neg (fun q => q1 q.1)]
          have hpi2 := HPI.out.play x HWO.out
          rw [hst] at hpi2
          have HPI2 := Lib.hid hpi2
          clear hst hpi2
          go_wp2_with (fail)
          go_roundw
          case rel => exact ⟨k + 1, by omega, by go_num, ⟨_, _, _, HTc.out, HGS.out.play x, HPI2.out, by have := HPL.out; omega⟩⟩
          case measure => simp [intOf]; omega
      · obtain rfl : k = n := by omega
        have hdm := dump_f HVMr.out.fresh HGS.out
        have HDM := Lib.hid hdm
        have hsh := HGS.out.inv.short
        have hoks := HVMr.out.fresh.oks
        have HOKS := Lib.hid hoks; have HSH := Lib.hid hsh
        clear hdm hsh hoks HPL
        go_wp2_with (fail)
        (with_reducible refine HDM.out.mono ?_); rintro e w5 ⟨da, dc, ds, rfl, he5, hds, hown⟩
        have HVM5 := Lib.hid (HVMr.out.ext he5)
        have HE5 := Lib.hid (HEr.out.trans he5)
        have HDS := Lib.hid hds; have HOW := Lib.hid hown
        have hmlen : ds.length = S.chain.length := by rw [← lks_len, hds]
        obtain ⟨m, hm⟩ : ∃ m, m = ds.length := ⟨_, rfl⟩
        rw [← hm]
        have hm2 : m ≤ 14420 := by rw [hm, hmlen]; exact HSH.out
        have HM := Lib.hid hm; have HML := Lib.hid hmlen
        clear hds hown hm hmlen HDM he5 a0 E0
        by_cases hz : m = 0
        · subst hz
          go_wp2_with (fail)
          (with_reducible refine (known_any _).mono ?_); rintro e w6 ⟨rfl, he6⟩
          go_wp2_with (fail)
          go_ret
          exact ⟨rfl, (HE.out.trans HE5.out).trans he6⟩
        · have hm0 : (0 : Int) < (m : Int) := by omega
          have T0 : ((m : Int) == 0) = false := by simpa using hz
          obtain ⟨gd, hgd, hgB⟩ := HOW.out.head (by rw [← HM.out]; omega)
          subst hgd
          have E5 := Ext.refl w5
          have a0 := fun W (e : Ext w5 W) => HA0.out W (HE5.out.trans e)
          have a1 := fun W (e : Ext w5 W) => HA1.out W (HE5.out.trans e)
          have a2 := fun W (e : Ext w5 W) => HA2.out W (HE5.out.trans e)
          have a3 := fun W (e : Ext w5 W) => HA3.out W (HE5.out.trans e)
          have a4 := fun W (e : Ext w5 W) => HA4.out W (HE5.out.trans e)
          have a5 := fun W (e : Ext w5 W) => HA5.out W (HE5.out.trans e)
          obtain ⟨k, hkk⟩ : ∃ k, k = lk % m := ⟨_, rfl⟩
          have hrem : (wrap64 (lk : Int)).tmod (m : Int) = (k : Int) := by
            have e : wrap64 (lk : Int) = (lk : Int) := by have := HLK.out; unfold wrap64; omega
            rw [e, hkk]
            exact (Int.ofNat_tmod lk m).symm
          have hkm : k < m := by rw [hkk]; exact Nat.mod_lt _ (by omega)
          have hk0 : (0 : Int) ≤ (k : Int) := by omega
          have hk1 : (k : Int) < (m : Int) := by omega
          clear hkk
          go_upto_region 18 with fail
          clear hrem hm0 T0
          have hkd : k < ds.length := by rw [← HM.out]; exact hkm
          obtain ⟨x, hxx⟩ : ∃ x, x = ds[k] := ⟨_, rfl⟩
          have hcl := HOW.out.cells k hkd
          rw [← hxx] at hcl
          have HXX := Lib.hid hxx
          clear hxx
          obtain ⟨c0, c1, c2, c3, c4, c5, c6, c7, c8, c9⟩ := hcl w5 E5
          have fr : ∀ W, Ext w5 W → ∀ i, W.frozen? ⟨gd, i, none⟩ = false := fun W e i => (HOW.out.ext e).free i
          have hfd := HFD.out
          subst hfd
          have hv := HVL.out
          have cj := fun W (e : Ext w5 W) => (hcl W e).2.2.2.2.2.2.1
          obtain ⟨qd, hqd⟩ : ∃ qd : Bool, qd = (x.l.un != (vl : Int)) := ⟨_, rfl⟩
          have T3 : (x.l.un != (vl : Int)) = qd := hqd.symm
          have HQD := Lib.hid hqd
          clear hqd
          have hr0 := Ext.refl w5
          have fr := Lib.hid fr; have HCL := Lib.hid hcl
          clear c0 c1 c2 c3 c4 c5 c6 c7 c8 c9 hcl a0 a1 a2 a3
          go_upto_region 36 with fail
          refine wp_region_ext (by kernel_rfl) (by kernel_rfl) hr0 ?_
          repeat (first | go_big_quiet_step ((fail)) | quiet_step ((fail)))
          refine wpQuiet_nil ?_
          rintro _ ⟨nq, rfl⟩
          have he6 := nq.ok
          generalize nq.val = w6 at *
          have f6 := fun W (e : Ext w6 W) => fr.out W (he6.trans e)
          have c6 := (HCL.out w6 he6).2.2.2.2.2.2.1
          have E6 := Ext.refl w6
          have a5 := fun W (e : Ext w6 W) => a5 W (he6.trans e)
          obtain ⟨y, hy⟩ : ∃ y : Lv, y = ⟨{ x.l with un := (vl : Int) }, x.ba, x.bc⟩ := ⟨_, rfl⟩
          have how := (HOW.out.ext he6).setF hkd (j := 6) (by omega) y (.int .i64 (vl : Int)) (by rw [← HXX.out, hy]; rfl) (by rw [← HXX.out, hy]) (by rw [← HXX.out, hy]) (by rw [← HXX.out, hy])
          have he7 := (HE5.out.trans he6).set (p := ⟨gd, k * 10 + 6, none⟩) (Nat.le_trans HEr.out.size hgB) (.int .i64 (vl : Int))
          have HOW7 := Lib.hid how; have HE7 := Lib.hid he7
          clear how he7 he6 T3 cj hr0 a4
          go_upto_region 41 with fail
          clear f6 c6 E6 a5
          generalize World.setCell w6 _ _ = w7 at *
          clear fr
          have hlk : (ds.set k y).length = m := by rw [List.length_set, ← HM.out]
          have hlks : lks (ds.set k y) = S.chain.set k y.l := by rw [← HDS.out]; simp [lks]
          have hxS : x.l = S.chain[k]'(by rw [← HML.out, ← HM.out]; exact hkm) := by
            have h1 : (lks ds)[k]? = some x.l := by rw [HXX.out]; simp [lks, hkd]
            rw [HDS.out, List.getElem?_eq_getElem (by rw [← HML.out, ← HM.out]; exact hkm)] at h1
            exact (Option.some.inj h1).symm
          have hxm : x.l ∈ S.chain := by rw [hxS]; exact List.getElem_mem _
          have hsm := HGS.out.sm x.l hxm
          have hok := HOKS.out x.l hxm
          have hck0 := HGS.out.check
          have hch := checkI_at S.chain 7 0 k hck0 (by rw [← HML.out, ← HM.out]; exact hkm)
          rw [← hxS] at hch
          have hoky : LksOk (ds.set k y) := LksOk.of hlks fun l hl => by
            rcases List.mem_or_eq_of_mem_set hl with hl | rfl
            · exact HOKS.out l hl
            · rw [hy]; exact ⟨hok.op, hok.cu, hok.ki, hok.nu0, hok.nu1, hok.ve0, hok.ve1, hok.da0, hok.da1, by show -9223372036854775808 ≤ (vl : Int); omega, by show (vl : Int) ≤ 9223372036854775807; omega, hok.bo, hok.tag, hok.ch⟩
          have hck := check_any (some ⟨gd, 0, none⟩) (ds.set k y) dc w7 HOW7.out.links hoky (by rw [hlk]; omega)
          rw [hlk, hlks] at hck
          obtain ⟨ci, hci⟩ : ∃ ci, ci = checkI 7 0 (S.chain.set k y.l) := ⟨_, rfl⟩
          rw [← hci] at hck
          have HCI := Lib.hid hci
          have HCK := Lib.hid hck
          have a4 := fun W (e : Ext w7 W) => HA4.out W (HE7.out.trans e)
          have hset : qd = true → ci = (k : Int) := fun q => by
            rw [hci, checkI_set S.chain y.l 7 0 k hck0 (by rw [← HML.out, ← HM.out]; exact hkm), Nat.zero_add]
            intro e
            have e2 : chainN (lastB 7 (S.chain.take k)) { x.l with un := (vl : Int) } = chainN (lastB 7 (S.chain.take k)) x.l := by rw [hch]; rw [hy] at e; exact e
            have e3 := chain_un hsm.op hsm.un (by omega) e2
            rw [HQD.out, ← e3] at q
            simp at q
          have hun : qd = false → ci = -1 := fun q => by
            rw [hci]
            have : y.l = S.chain[k]'(by rw [← HML.out, ← HM.out]; exact hkm) := by
              rw [← hxS]
              have e3 : x.l.un = (vl : Int) := by rw [HQD.out, bne_eq_false_iff_eq] at q; exact q
              rw [hy]
              show ({ x.l with un := (vl : Int) } : Lk) = x.l
              rw [← e3]
            rw [this, List.set_getElem_self]; exact hck0
          have HSET := Lib.hid hset; have HUN := Lib.hid hun
          have E7 := Ext.refl w7
          clear hlk hlks hxS hxm hsm hok hck0 hch hoky hck hci hset hun HQD hy HXX
          cases qd
          · have hc1 := HUN.out rfl
            subst hc1
            go_wp2_with (fail)
            (with_reducible refine HCK.out.mono ?_); rintro e w8 ⟨rfl, he8⟩
            have HE8 := Lib.hid (HE7.out.trans he8)
            clear HCK he8 a4
            go_wp2_with (fail)
            (with_reducible refine (known_any _).mono ?_); rintro e w9 ⟨rfl, he9⟩
            go_wp2_with (fail)
            go_ret
            exact ⟨rfl, (HE.out.trans HE8.out).trans he9⟩
          · have hc1 := HSET.out rfl
            subst hc1
            go_wp2_with (fail)
            (with_reducible refine HCK.out.mono ?_); rintro e w8 ⟨rfl, he8⟩
            have HE8 := Lib.hid (HE7.out.trans he8)
            have E8 := Ext.refl w8
            have a4 := fun W (e : Ext w8 W) => HA4.out W (HE8.out.trans e)
            clear HCK he8
            go_wp2_with (fail)
            (with_reducible refine (known_any _).mono ?_); rintro e w9 ⟨rfl, he9⟩
            go_wp2_with (fail)
            go_ret
            exact ⟨rfl, (HE.out.trans HE8.out).trans he9⟩
  · go_wp2_with (fail)
    (with_reducible refine (known_any _).mono ?_); rintro e w3 ⟨rfl, he3⟩
    go_wp2_with (fail)
    go_ret
    exact ⟨rfl, (HE.out.trans HE12.out).trans he3⟩
end Go.Proofs.Ytlahejakcgoheaa
