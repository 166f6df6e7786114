/-
  Walk: could.
-/
import Derived.Test.YtlahejakcgoheaaWP
set_option linter.unusedVariables false
set_option linter.unusedSimpArgs false
namespace Go.Proofs.Ytlahejakcgoheaa
open Go.RowKit
theorem look103 {V : Vw} {L : List Cl} {w : World} (h : VwAt w V L) {n : ByteArray} (hn : n.size ≤ maxLen) : ∃ pv th, (∀ W, Ext w W → (Instr.lookup 103 (.map (some V.mb)) (.string n) true).run Try.prog W = .ok (.tuple #[pv, .bool th]) W) ∧
    ((th = false ∧ findW V n = none) ∨ ∃ c, th = true ∧ pv = ptr c.cb ∧ findW V n = some c) := by
  cases hf : findW V n with
  | none => exact ⟨.pointer none, false, fun W e => look103_no h hn hf W e true, .inl ⟨rfl, rfl⟩⟩
  | some c => exact ⟨ptr c.cb, true, fun W e => look103_yes h hn hf W e true, .inr ⟨c, rfl, rfl, rfl⟩⟩
theorem couldB_1 (S : PV) (l : Lk) (P : plainB l = true) (h : l.op = 1) : couldB S l = (nameB l.cu && ((S.find l.cu).isNone && decide ((S.cus.length : Int) < 20))) := by
  rw [couldB, if_pos P, if_pos h]
theorem couldB_2 (S : PV) (l : Lk) (P : plainB l = true) (h : l.op = 2) : couldB S l = (decide (S.day < l.da) && (decide (l.da ≤ 1000000) && decide (S.adv < 2000))) := by
  rw [couldB, if_pos P, if_neg (by omega), if_pos h]
theorem couldB_n (S : PV) (l : Lk) (h1 : ¬ l.op = 1) (h2 : ¬ l.op = 2) (hf : S.find l.cu = none) : couldB S l = false := by
  rw [couldB, if_neg h1, if_neg h2, hf]; simp
theorem couldB_bad (S : PV) (l : Lk) (c : PC) (h1 : ¬ l.op = 1) (h2 : ¬ l.op = 2) (hf : S.find l.cu = some c) (h : ¬ (l.da = S.day ∧ l.bo.length ≠ 0 ∧ l.bo.length ≤ 2016 ∧ l.bo.length % 32 = 0)) : couldB S l = false := by
  rw [couldB, if_neg h1, if_neg h2, hf]; simp only [if_neg h]; simp
theorem couldB_3 (S : PV) (l : Lk) (c : PC) (P : plainB l = true) (h3 : l.op = 3) (hf : S.find l.cu = some c) (h : l.da = S.day ∧ l.bo.length ≠ 0 ∧ l.bo.length ≤ 2016 ∧ l.bo.length % 32 = 0) :
    couldB S l = ((l.nu == (c.recs.length : Int) + 1) && (decide (l.nu ≤ 30) && ((l.ve == 1) && (nameB l.ki && (decide (S.day ≤ l.un) && decide (l.un ≤ 1000000)))))) := by
  rw [couldB, if_pos P, if_neg (by omega), if_neg (by omega), hf]; simp only [if_pos h, if_pos h3]
theorem couldB_e (S : PV) (l : Lk) (c : PC) (h1 : ¬ l.op = 1) (h2 : ¬ l.op = 2) (h3 : ¬ l.op = 3) (hf : S.find l.cu = some c) (he : ¬ (findR c l.nu S.day).2 = 0) : couldB S l = false := by
  rw [couldB, if_neg h1, if_neg h2, hf]; simp only [if_neg h3, if_neg he]; simp
theorem couldB_4 (S : PV) (l : Lk) (c : PC) (P : plainB l = true) (h4 : l.op = 4) (hf : S.find l.cu = some c) (h : l.da = S.day ∧ l.bo.length ≠ 0 ∧ l.bo.length ≤ 2016 ∧ l.bo.length % 32 = 0) (he : (findR c l.nu S.day).2 = 0) :
    couldB S l = ((l.ve == ((findR c l.nu S.day).1.length : Int) + 1) && decide (l.ve ≤ 20)) := by
  rw [couldB, if_pos P, if_neg (by omega), if_neg (by omega), hf]; simp only [if_pos h, if_neg (show ¬ l.op = 3 by omega), if_pos he, if_pos h4]
theorem couldB_5 (S : PV) (l : Lk) (c : PC) (P : plainB l = true) (h1 : ¬ l.op = 1) (h2 : ¬ l.op = 2) (h3 : ¬ l.op = 3) (h4 : ¬ l.op = 4) (hf : S.find l.cu = some c) (h : l.da = S.day ∧ l.bo.length ≠ 0 ∧ l.bo.length ≤ 2016 ∧ l.bo.length % 32 = 0) (he : (findR c l.nu S.day).2 = 0) :
    couldB S l = ((l.ve == ((findR c l.nu S.day).1.length : Int)) && ((S.find l.ki).isSome && (!(decide (l.ki = l.cu)) && decide (c.made < 20)))) := by
  rw [couldB, if_pos P, if_neg h1, if_neg h2, hf]; simp only [if_pos h, if_neg h3, if_pos he, if_neg h4]
theorem toList_inj {a b : ByteArray} (h : a.toList = b.toList) : a = b := by
  rw [toList_eq, toList_eq] at h
  exact ByteArray.ext (Array.toList_inj.1 h)
/-- Two texts, as the walk compares them. -/
theorem str_beq (a b : ByteArray) : (a.toList == b.toList) = decide (a = b) := by
  rw [Bool.eq_iff_iff]
  simp only [beq_iff_eq, decide_eq_true_eq]
  exact ⟨toList_inj, fun h => by rw [h]⟩
/-- What 'find' gives back, as the plain words say it. -/
theorem findV_parts (c : Cw) (number day : Int) : ∃ rv ev, findV c number day = .tuple #[rv, .int .i64 ev] ∧ ((findR c.p number day).2 = ev ∧ (ev = 0 → ∃ r ∈ c.recs, rv = r.val ∧ (findR c.p number day).1 = r.p)) := by
  have hl : c.p.recs.length = c.recs.length := List.length_map ..
  unfold findV findR
  rw [hl]
  by_cases h : number < 1 ∨ (c.recs.length : Int) < number
  · rw [if_pos h, if_pos h]
    exact ⟨_, _, rfl, rfl, by simp⟩
  · rw [if_neg h, if_neg h]
    have hi : (number - 1).toNat < c.recs.length := by omega
    rw [List.getElem?_eq_getElem hi]
    have hg : c.p.recs.getD (number - 1).toNat [] = (c.recs[(number - 1).toNat]).p := by
      show (c.recs.map Rv.p).getD _ [] = _
      rw [List.getD_eq_getElem?_getD, List.getElem?_map, List.getElem?_eq_getElem hi]; rfl
    rw [hg]
    simp only
    by_cases h2 : untilR (c.recs[(number - 1).toNat]).p < day
    · rw [if_pos h2, if_pos h2]
      exact ⟨_, _, rfl, rfl, by simp⟩
    · rw [if_neg h2, if_neg h2]
      exact ⟨_, _, rfl, rfl, fun _ => ⟨_, List.getElem_mem hi, rfl, rfl⟩⟩
set_option maxRecDepth 100000 in
set_option maxHeartbeats 16000000 in
theorem could_any (V : Vw) (L : List Cl) (y : Cl) (w : World) (h : VwAt w V L) (hp : PVOk V.p) (hy : LinkAt w y.b y.x) (ho : LkOk y.x.l) : Calls Try.prog 87 #[ptr V.vb, ptr y.b] w (Ret (.bool (couldB V.p y.x.l)) w) := by
  obtain ⟨v0, v1, v2, v3⟩ := obj_cells4 h.blk
  obtain ⟨c0, c1, c2, c3, c4, c5, c6, c7, c8, c9⟩ := obj_cells10 hy.1
  have hpl := plain_any y.b y.x w hy.1
  have hnm := fun W => isName_any y.x.l.cu W ho.cu
  have hnk := fun W => isName_any y.x.l.ki W ho.ki
  obtain ⟨pv, th, hlk, hth⟩ := look103 h ho.cu
  obtain ⟨pk, tk, hlk2, htk⟩ := look103 h ho.ki
  have hlen := fun W (e : Ext w W) => (h.map.ext e).len Try.underlying103 3
  have hcl : (cusM V.cus).length = V.cus.length := by simp [cusM]
  rw [hcl] at hlen
  obtain ⟨q, hq⟩ : ∃ q, q = couldB V.p y.x.l := ⟨_, rfl⟩
  rw [← hq]
  have d0 := hp.d0; have d1 := hp.d1; have a0 := hp.a0; have a1 := hp.a1
  simp only [Vw.p] at d0 d1 a0 a1
  have hbo := ho.bo
  have HQ := Lib.hid hq; have HPL := Lib.hid hpl; have HNM := Lib.hid hnm; have HNK := Lib.hid hnk
  have HTH := Lib.hid hth; have HTK := Lib.hid htk; have HLEN := Lib.hid hlen; have HLK := Lib.hid hlk; have HLK2 := Lib.hid hlk2
  have HV := Lib.hid h; have HP := Lib.hid hp; have HO := Lib.hid ho
  clear hq hpl hnm hnk hth htk hlen hlk hlk2 h hp hy ho hcl
  go_enter Try.func87, Try.ntmps87
  go_wp2_with (fail)
  (with_reducible refine HPL.out.mono ?_); rintro e w1 ⟨rfl, he1⟩
  cases P : plainB y.x.l
  · have hb : Hid (q = false) := by rw [Hid, HQ.out]; simp [couldB, P]
    go_wp2_with (fail)
    go_ret
    exact ⟨by rw [hb.out]; rfl, he1⟩
  · replace v0 := fun W (e : Ext w1 W) => v0 W (he1.trans e); replace v1 := fun W (e : Ext w1 W) => v1 W (he1.trans e); replace v2 := fun W (e : Ext w1 W) => v2 W (he1.trans e)
    replace c0 := fun W (e : Ext w1 W) => c0 W (he1.trans e); replace c1 := fun W (e : Ext w1 W) => c1 W (he1.trans e); replace c2 := fun W (e : Ext w1 W) => c2 W (he1.trans e)
    replace c3 := fun W (e : Ext w1 W) => c3 W (he1.trans e); replace c4 := fun W (e : Ext w1 W) => c4 W (he1.trans e); replace c5 := fun W (e : Ext w1 W) => c5 W (he1.trans e)
    replace c6 := fun W (e : Ext w1 W) => c6 W (he1.trans e); replace c7 := fun W (e : Ext w1 W) => c7 W (he1.trans e)
    have hlk := fun W (e : Ext w1 W) => HLK.out W (he1.trans e)
    clear v3 c8 c9
    have hr0 := Ext.refl w1
    cases O1 : ((y.x.l.op : Int) == 1)
    · cases O2 : ((y.x.l.op : Int) == 2)
      · have e1 : ¬ y.x.l.op = 1 := by simp at O1; omega
        have e2 : ¬ y.x.l.op = 2 := by simp at O2; omega
        go_wp2_with (fail)
        refine wp_region_ext (by kernel_rfl) (by kernel_rfl) hr0 ?_
        repeat (first | go_big_quiet_step ((fail)) | quiet_step ((fail)))
        refine wpQuiet_nil ?_
        rintro _ ⟨nq, rfl⟩
        have he := he1.trans nq.ok
        clear hr0 hlk
        have hr0 := nq.ok
        go_upto_region 9 with fail
        rcases HTH.out with ⟨rfl, hf⟩ | ⟨c, rfl, rfl, hf⟩
        · have hfp : V.p.find y.x.l.cu = none := by rw [findW_p, hf]; rfl
          have hb : Hid (q = false) := by
            rw [Hid, HQ.out]
            exact couldB_n _ _ e1 e2 hfp
          refine wp_region_ext (by kernel_rfl) (by kernel_rfl) hr0 ?_
          repeat (first | go_big_quiet_step ((fail)) | quiet_step ((fail)))
          refine wpQuiet_nil ?_
          rintro _ ⟨nq, rfl⟩
          go_wp2_with (fail)
          go_ret
          exact ⟨by rw [hb.out]; rfl, he1.trans nq.ok⟩
        · have hfp : V.p.find y.x.l.cu = some c.p := by rw [findW_p, hf]; rfl
          obtain ⟨hcm, -⟩ := findW_mem hf
          have hcw := HV.out.cus c hcm
          have hpc := HP.out.cs c.p (List.mem_map.2 ⟨c, hcm, rfl⟩)
          have hrl : c.recs.length ≤ 30 := by have := hpc.rl; simpa [Cw.p] using this
          have hm0 : 0 ≤ c.made := hpc.m0
          have hm1 : c.made ≤ 20 := hpc.m1
          obtain ⟨g0, g1, g2, g3, g4⟩ := obj_cells5 hcw.blk
          replace g2 := fun W (e : Ext w1 W) => g2 W (he1.trans e); replace g3 := fun W (e : Ext w1 W) => g3 W (he1.trans e)
          have HFP := Lib.hid hfp; have HCM := Lib.hid hcm; have HCW := Lib.hid hcw; have HPC := Lib.hid hpc
          clear g0 g1 g4 hfp hcm hcw hpc hf
          cases E1 : (y.x.l.da != V.day)
          · cases E2 : ((y.x.l.bo.length : Int) == 0)
            · cases E3 : decide (2016 < (y.x.l.bo.length : Int))
              · cases E4 : ((y.x.l.bo.length : Int) % 32 != 0)
                · have hgood : Hid (y.x.l.da = V.p.day ∧ y.x.l.bo.length ≠ 0 ∧ y.x.l.bo.length ≤ 2016 ∧ y.x.l.bo.length % 32 = 0) := by
                    rw [beq_eq_false_iff_ne] at E2
                    simp at E1 E3 E4
                    exact ⟨E1, by omega, by omega, by omega⟩
                  refine wp_region_ext (by kernel_rfl) (by kernel_rfl) hr0 ?_
                  repeat (first | go_big_quiet_step ((fail)) | quiet_step ((fail)))
                  refine wpQuiet_nil ?_
                  rintro _ ⟨nq, rfl⟩
                  clear hr0 he
                  have hr0 := nq.ok
                  cases O3 : ((y.x.l.op : Int) == 3)
                  · have e3 : ¬ y.x.l.op = 3 := by simp at O3; omega
                    have hfd := fun W (e : Ext w1 W) => find_any c (foot V) L y.x.l.nu V.day W ((HCW.out).frame (fun k hk => Below.block (he1.trans e) k (HCW.out.lt k hk))) (HV.out.links.frame (fun k hk _ => Below.block (he1.trans e) k hk) (fun k hk => .inl hk) (he1.trans e).size) (HV.out.recs c HCM.out)
                      (fun r hr => by
                        have := (HPC.out.rr r.p (List.mem_map.2 ⟨r, hr, rfl⟩)).1
                        have h2 : r.p.length = r.ls.length := by simp [Rv.p]
                        have := List.length_pos_iff.2 this
                        omega) (by omega) HO.out.nu0 HO.out.nu1
                    obtain ⟨rv, ev, hfv, hfe⟩ := findV_parts c y.x.l.nu V.day
                    rw [hfv] at hfd
                    have HFD := Lib.hid hfd; have HFE := Lib.hid hfe
                    clear hfd hfv hfe
                    go_wp2_with (fail)
                    refine wp_region_ext (by kernel_rfl) (by kernel_rfl) hr0 ?_
                    repeat (first | go_big_quiet_step (((go_at_call 69; exact Calls.later (HFD.out _ (Later.ok _))))) | quiet_step (((go_at_call 69; exact Calls.later (HFD.out _ (Later.ok _))))))
                    refine wpQuiet_nil ?_
                    rintro _ ⟨nq, rfl⟩
                    clear hr0
                    have hr0 := nq.ok
                    cases T : (ev != 0)
                    · have hev : ev = 0 := by simpa using T
                      have hfe := HFE.out
                      subst hev
                      obtain ⟨hf2, hf1⟩ := hfe
                      obtain ⟨r, hrm, rfl, hf3⟩ := hf1 rfl
                      have hrp : (findR c.p y.x.l.nu V.p.day).1.length = r.ls.length := by
                        rw [show V.p.day = V.day from rfl, hf3]; simp [Rv.p]
                      have hr20 : r.ls.length ≤ 20 := by
                        have := (HPC.out.rr r.p (List.mem_map.2 ⟨r, hrm, rfl⟩)).2
                        simpa [Rv.p] using this
                      have HRP := Lib.hid hrp
                      unfold Rv.val
                      clear hf1 hf3 hrp
                      cases O4 : ((y.x.l.op : Int) == 4)
                      · have e4 : ¬ y.x.l.op = 4 := by simp at O4; omega
                        have hc : Hid (q = ((y.x.l.ve == (r.ls.length : Int)) && (tk && (!(decide (y.x.l.ki = y.x.l.cu)) && decide (c.made < 20))))) := by
                          have := HQ.out.trans (couldB_5 V.p y.x.l c.p P e1 e2 e3 e4 HFP.out hgood.out hf2)
                          have hts : (V.p.find y.x.l.ki).isSome = tk := by
                            have e2 := findW_p V y.x.l.ki
                            rcases HTK.out with ⟨e3, e4⟩ | ⟨c, e3, -, e4⟩ <;> rw [e4] at e2 <;> rw [e2, e3] <;> rfl
                          rw [HRP.out, hts] at this
                          exact this
                        have hlk := fun W (e : Ext w1 W) => HLK2.out W (he1.trans e)
                        go_wp2_with (fail)
                        refine wp_region_ext (by kernel_rfl) (by kernel_rfl) hr0 ?_
                        repeat (first | go_big_quiet_step ((fail)) | quiet_step ((fail)))
                        refine wpQuiet_nil ?_
                        rintro _ ⟨nq, rfl⟩
                        clear hr0
                        have hr0 := nq.ok
                        go_wp2_with (fail)
                        cases N1 : (y.x.l.ve == (r.ls.length : Int))
                        · have hb : Hid (q = false) := by rw [Hid, hc.out, N1]; rfl
                          refine wp_region_ext (by kernel_rfl) (by kernel_rfl) hr0 ?_
                          repeat (first | go_big_quiet_step ((fail)) | quiet_step ((fail)))
                          refine wpQuiet_nil ?_
                          rintro _ ⟨nq, rfl⟩
                          go_wp2_with (fail)
                          go_ret
                          exact ⟨by rw [hb.out]; rfl, he1.trans nq.ok⟩
                        · cases N2 : tk
                          · have hb : Hid (q = false) := by rw [Hid, hc.out, N1, N2]; rfl
                            refine wp_region_ext (by kernel_rfl) (by kernel_rfl) hr0 ?_
                            repeat (first | go_big_quiet_step ((fail)) | quiet_step ((fail)))
                            refine wpQuiet_nil ?_
                            rintro _ ⟨nq, rfl⟩
                            go_wp2_with (fail)
                            go_ret
                            exact ⟨by rw [hb.out]; rfl, he1.trans nq.ok⟩
                          · cases N3 : decide (y.x.l.ki = y.x.l.cu)
                            · have s2 := str_beq y.x.l.ki y.x.l.cu
                              rw [N3] at s2
                              have hb : Hid (q = decide (c.made < 20)) := by rw [Hid, hc.out, N1, N2, N3]; rfl
                              refine wp_region_ext (by kernel_rfl) (by kernel_rfl) hr0 ?_
                              repeat (first | go_big_quiet_step ((fail)) | quiet_step ((fail)))
                              refine wpQuiet_nil ?_
                              rintro _ ⟨nq, rfl⟩
                              go_wp2_with (fail)
                              go_ret
                              exact ⟨by rw [hb.out]; rfl, he1.trans nq.ok⟩
                            · have s2 := str_beq y.x.l.ki y.x.l.cu
                              rw [N3] at s2
                              have hb : Hid (q = false) := by rw [Hid, hc.out, N1, N2, N3]; rfl
                              refine wp_region_ext (by kernel_rfl) (by kernel_rfl) hr0 ?_
                              repeat (first | go_big_quiet_step ((fail)) | quiet_step ((fail)))
                              refine wpQuiet_nil ?_
                              rintro _ ⟨nq, rfl⟩
                              go_wp2_with (fail)
                              go_ret
                              exact ⟨by rw [hb.out]; rfl, he1.trans nq.ok⟩
                      · have e4 : y.x.l.op = 4 := by simp at O4; omega
                        have hc : Hid (q = ((y.x.l.ve == (r.ls.length : Int) + 1) && decide (y.x.l.ve ≤ 20))) := by
                          have := HQ.out.trans (couldB_4 V.p y.x.l c.p P e4 HFP.out hgood.out hf2)
                          rw [HRP.out] at this
                          exact this
                        cases N1 : (y.x.l.ve == (r.ls.length : Int) + 1)
                        · have hb : Hid (q = false) := by rw [Hid, hc.out, N1]; rfl
                          go_wp2_with (fail)
                          go_ret
                          exact ⟨by rw [hb.out]; rfl, he1.trans hr0⟩
                        · have hb : Hid (q = decide (y.x.l.ve ≤ 20)) := by rw [Hid, hc.out, N1]; rfl
                          go_wp2_with (fail)
                          go_ret
                          exact ⟨by rw [hb.out]; rfl, he1.trans hr0⟩
                    · have hb : Hid (q = false) := by
                        rw [Hid, HQ.out]
                        refine couldB_e _ _ c.p e1 e2 e3 HFP.out ?_
                        have := HFE.out.1
                        rw [show V.p.day = V.day from rfl, this]
                        simpa using T
                      go_wp2_with (fail)
                      go_ret
                      exact ⟨by rw [hb.out]; rfl, he1.trans hr0⟩
                  · have e3 : y.x.l.op = 3 := by simp at O3; omega
                    have hc : Hid (q = ((y.x.l.nu == (c.recs.length : Int) + 1) && (decide (y.x.l.nu ≤ 30) && ((y.x.l.ve == 1) && (nameB y.x.l.ki && (decide (V.day ≤ y.x.l.un) && decide (y.x.l.un ≤ 1000000))))))) := by
                      have := HQ.out.trans (couldB_3 V.p y.x.l c.p P e3 HFP.out hgood.out)
                      rw [show c.p.recs.length = c.recs.length from List.length_map ..] at this
                      exact this
                    go_wp2_with (fail)
                    cases N1 : (y.x.l.nu == (c.recs.length : Int) + 1)
                    · have hb : Hid (q = false) := by
                        rw [Hid, hc.out]
                        rw [N1]; rfl
                      refine wp_region_ext (by kernel_rfl) (by kernel_rfl) hr0 ?_
                      repeat (first | go_big_quiet_step ((first | fail | (go_at_call 63; exact Calls.later (HNK.out _)))) | quiet_step ((first | fail | (go_at_call 63; exact Calls.later (HNK.out _)))))
                      refine wpQuiet_nil ?_
                      rintro _ ⟨nq, rfl⟩
                      go_wp2_with (fail)
                      go_ret
                      exact ⟨by rw [hb.out]; rfl, he1.trans nq.ok⟩
                    · cases N2 : decide (y.x.l.nu ≤ 30)
                      · have hb : Hid (q = false) := by
                          rw [Hid, hc.out]
                          rw [N1, N2]; rfl
                        refine wp_region_ext (by kernel_rfl) (by kernel_rfl) hr0 ?_
                        repeat (first | go_big_quiet_step ((first | fail | (go_at_call 63; exact Calls.later (HNK.out _)))) | quiet_step ((first | fail | (go_at_call 63; exact Calls.later (HNK.out _)))))
                        refine wpQuiet_nil ?_
                        rintro _ ⟨nq, rfl⟩
                        go_wp2_with (fail)
                        go_ret
                        exact ⟨by rw [hb.out]; rfl, he1.trans nq.ok⟩
                      · cases N3 : (y.x.l.ve == 1)
                        · have hb : Hid (q = false) := by
                            rw [Hid, hc.out]
                            rw [N1, N2, N3]; rfl
                          refine wp_region_ext (by kernel_rfl) (by kernel_rfl) hr0 ?_
                          repeat (first | go_big_quiet_step ((first | fail | (go_at_call 63; exact Calls.later (HNK.out _)))) | quiet_step ((first | fail | (go_at_call 63; exact Calls.later (HNK.out _)))))
                          refine wpQuiet_nil ?_
                          rintro _ ⟨nq, rfl⟩
                          go_wp2_with (fail)
                          go_ret
                          exact ⟨by rw [hb.out]; rfl, he1.trans nq.ok⟩
                        · cases N4 : nameB y.x.l.ki
                          · have hb : Hid (q = false) := by
                              rw [Hid, hc.out]
                              rw [N1, N2, N3, N4]; rfl
                            refine wp_region_ext (by kernel_rfl) (by kernel_rfl) hr0 ?_
                            repeat (first | go_big_quiet_step ((first | fail | (go_at_call 63; exact Calls.later (HNK.out _)))) | quiet_step ((first | fail | (go_at_call 63; exact Calls.later (HNK.out _)))))
                            refine wpQuiet_nil ?_
                            rintro _ ⟨nq, rfl⟩
                            go_wp2_with (fail)
                            go_ret
                            exact ⟨by rw [hb.out]; rfl, he1.trans nq.ok⟩
                          · cases N5 : decide (V.day ≤ y.x.l.un)
                            · have hb : Hid (q = false) := by
                                rw [Hid, hc.out]
                                rw [N1, N2, N3, N4, N5]; rfl
                              refine wp_region_ext (by kernel_rfl) (by kernel_rfl) hr0 ?_
                              repeat (first | go_big_quiet_step ((first | fail | (go_at_call 63; exact Calls.later (HNK.out _)))) | quiet_step ((first | fail | (go_at_call 63; exact Calls.later (HNK.out _)))))
                              refine wpQuiet_nil ?_
                              rintro _ ⟨nq, rfl⟩
                              go_wp2_with (fail)
                              go_ret
                              exact ⟨by rw [hb.out]; rfl, he1.trans nq.ok⟩
                            · have hb : Hid (q = decide (y.x.l.un ≤ 1000000)) := by
                                rw [Hid, hc.out]
                                rw [N1, N2, N3, N4, N5]; rfl
                              refine wp_region_ext (by kernel_rfl) (by kernel_rfl) hr0 ?_
                              repeat (first | go_big_quiet_step ((first | fail | (go_at_call 63; exact Calls.later (HNK.out _)))) | quiet_step ((first | fail | (go_at_call 63; exact Calls.later (HNK.out _)))))
                              refine wpQuiet_nil ?_
                              rintro _ ⟨nq, rfl⟩
                              go_wp2_with (fail)
                              go_ret
                              exact ⟨by rw [hb.out]; rfl, he1.trans nq.ok⟩
                · have hb : Hid (q = false) := by
                    rw [Hid, HQ.out]
                    exact couldB_bad _ _ c.p e1 e2 HFP.out (by
                      rintro ⟨h1, h2, h3, h4⟩
                      simp at E4; omega)
                  refine wp_region_ext (by kernel_rfl) (by kernel_rfl) hr0 ?_
                  repeat (first | go_big_quiet_step ((fail)) | quiet_step ((fail)))
                  refine wpQuiet_nil ?_
                  rintro _ ⟨nq, rfl⟩
                  go_wp2_with (fail)
                  go_ret
                  exact ⟨by rw [hb.out]; rfl, he1.trans nq.ok⟩
              · have hb : Hid (q = false) := by
                  rw [Hid, HQ.out]
                  exact couldB_bad _ _ c.p e1 e2 HFP.out (by
                    rintro ⟨h1, h2, h3, h4⟩
                    simp at E3; omega)
                refine wp_region_ext (by kernel_rfl) (by kernel_rfl) hr0 ?_
                repeat (first | go_big_quiet_step ((fail)) | quiet_step ((fail)))
                refine wpQuiet_nil ?_
                rintro _ ⟨nq, rfl⟩
                go_wp2_with (fail)
                go_ret
                exact ⟨by rw [hb.out]; rfl, he1.trans nq.ok⟩
            · have hb : Hid (q = false) := by
                rw [Hid, HQ.out]
                exact couldB_bad _ _ c.p e1 e2 HFP.out (by
                  rintro ⟨h1, h2, h3, h4⟩
                  rw [beq_iff_eq] at E2; omega)
              refine wp_region_ext (by kernel_rfl) (by kernel_rfl) hr0 ?_
              repeat (first | go_big_quiet_step ((fail)) | quiet_step ((fail)))
              refine wpQuiet_nil ?_
              rintro _ ⟨nq, rfl⟩
              go_wp2_with (fail)
              go_ret
              exact ⟨by rw [hb.out]; rfl, he1.trans nq.ok⟩
          · have hb : Hid (q = false) := by
              rw [Hid, HQ.out]
              exact couldB_bad _ _ c.p e1 e2 HFP.out (by
                rintro ⟨h1, h2, h3, h4⟩
                have h5 : y.x.l.da = V.day := h1; simp [h5] at E1)
            refine wp_region_ext (by kernel_rfl) (by kernel_rfl) hr0 ?_
            repeat (first | go_big_quiet_step ((fail)) | quiet_step ((fail)))
            refine wpQuiet_nil ?_
            rintro _ ⟨nq, rfl⟩
            go_wp2_with (fail)
            go_ret
            exact ⟨by rw [hb.out]; rfl, he1.trans nq.ok⟩
      · have e2 : y.x.l.op = 2 := by simp at O2; omega
        have hc : Hid (q = (decide (V.day < y.x.l.da) && (decide (y.x.l.da ≤ 1000000) && decide (V.adv < 2000)))) := HQ.out.trans (couldB_2 V.p y.x.l P e2)
        go_wp2_with (fail)
        refine wp_region_ext (by kernel_rfl) (by kernel_rfl) hr0 ?_
        repeat (first | go_big_quiet_step ((fail)) | quiet_step ((fail)))
        refine wpQuiet_nil ?_
        rintro _ ⟨nq, rfl⟩
        have he := he1.trans nq.ok
        clear hr0 hlk
        have hr0 := nq.ok
        go_wp2_with (fail)
        cases T1 : decide (V.day < y.x.l.da)
        · have hb : Hid (q = false) := by rw [Hid, hc.out, T1]; rfl
          refine wp_region_ext (by kernel_rfl) (by kernel_rfl) hr0 ?_
          repeat (first | go_big_quiet_step ((fail)) | quiet_step ((fail)))
          refine wpQuiet_nil ?_
          rintro _ ⟨nq, rfl⟩
          go_wp2_with (fail)
          go_ret
          exact ⟨by rw [hb.out]; rfl, he1.trans nq.ok⟩
        · cases T2 : decide (y.x.l.da ≤ 1000000)
          · have hb : Hid (q = false) := by rw [Hid, hc.out, T1, T2]; rfl
            refine wp_region_ext (by kernel_rfl) (by kernel_rfl) hr0 ?_
            repeat (first | go_big_quiet_step ((fail)) | quiet_step ((fail)))
            refine wpQuiet_nil ?_
            rintro _ ⟨nq, rfl⟩
            go_wp2_with (fail)
            go_ret
            exact ⟨by rw [hb.out]; rfl, he1.trans nq.ok⟩
          · have hb : Hid (q = decide (V.adv < 2000)) := by rw [Hid, hc.out, T1, T2]; rfl
            refine wp_region_ext (by kernel_rfl) (by kernel_rfl) hr0 ?_
            repeat (first | go_big_quiet_step ((fail)) | quiet_step ((fail)))
            refine wpQuiet_nil ?_
            rintro _ ⟨nq, rfl⟩
            go_wp2_with (fail)
            go_ret
            exact ⟨by rw [hb.out]; rfl, he1.trans nq.ok⟩
    · have e1 : y.x.l.op = 1 := by simp at O1; omega
      have hc0 := HQ.out.trans (couldB_1 V.p y.x.l P e1)
      have hth : Hid ((V.p.find y.x.l.cu).isNone = !th) := by
        have e2 := findW_p V y.x.l.cu
        rcases HTH.out with ⟨e3, e4⟩ | ⟨c, e3, -, e4⟩ <;> rw [e4] at e2 <;> rw [Hid, e2, e3] <;> rfl
      rw [hth.out, show V.p.cus.length = V.cus.length from List.length_map ..] at hc0
      have hc := Lib.hid hc0
      clear hc0
      go_wp2_with (fail)
      refine wp_region_ext (by kernel_rfl) (by kernel_rfl) hr0 ?_
      repeat (first | go_big_quiet_step ((fail)) | quiet_step ((fail)))
      refine wpQuiet_nil ?_
      rintro _ ⟨nq, rfl⟩
      have he := he1.trans nq.ok
      clear hr0 hlk
      have hr0 := nq.ok
      have hlen := fun W (e : Ext w1 W) => HLEN.out W (he1.trans e)
      go_wp2_with (fail)
      (with_reducible refine (HNM.out _).mono ?_); rintro e w3 ⟨rfl, he3⟩
      have hr3 := hr0.trans he3
      cases N : nameB y.x.l.cu
      · have hb : Hid (q = false) := by rw [Hid, hc.out, N]; rfl
        go_wp2_with (fail)
        go_ret
        exact ⟨by rw [hb.out]; rfl, he1.trans hr3⟩
      · cases N2 : th
        · have hb : Hid (q = decide ((V.cus.length : Int) < 20)) := by rw [Hid, hc.out, N, N2]; rfl
          go_wp2_with (fail)
          go_ret
          exact ⟨by rw [hb.out]; rfl, he1.trans hr3⟩
        · have hb : Hid (q = false) := by rw [Hid, hc.out, N, N2]; rfl
          go_wp2_with (fail)
          go_ret
          exact ⟨by rw [hb.out]; rfl, he1.trans hr3⟩
end Go.Proofs.Ytlahejakcgoheaa
