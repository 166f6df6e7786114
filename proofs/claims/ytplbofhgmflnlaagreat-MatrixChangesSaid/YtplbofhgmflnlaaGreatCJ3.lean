/-
  Walk: MatrixChanges, at most six settings.
-/
import Derived.Test.YtplbofhgmflnlaaGreatCJ2
set_option linter.unusedVariables false
set_option linter.unusedSimpArgs false
namespace Go.Proofs.YtplbofhgmflnlaaGreat
open Go.RowKit
set_option maxRecDepth 100000 in
set_option maxHeartbeats 8000000 in
theorem cg_short (P : Pw) (a : Option Addr) (ss : List Se) (sc : Nat) (oa : Option Addr) (xs : List Int) (oc : Nat) (w : World) (hp : PlanAt w P) (hs : SetsAt w a ss) (hn : ss.length ≤ 9223372036854775807) (hl : ∀ i, i < ss.length → (eth ss i).lv.xs.length ≤ 9223372036854775807) (ho : Ints w oa xs)
    (h1 : wideP P.fs P.fo = false) (h2 : wideS ss = false) (hx : xs.length ≤ 2005) (h0 : checkE P ss = 0) (h6 : ss.length ≤ 6) :
    Calls Tryz.prog 14 #[planV P, .slice a ss.length sc, .slice oa xs.length oc] w (Ret (.bool true) w) := by
  have hb := planB_wide h1
  obtain ⟨hn5, hn12, hl10⟩ := wideS_no h2
  have hwp := fun W (e : Ext w W) => wideP_any P.fs P.fo P.fa P.ga P.fc P.gc W (hp.ext e).fo (fun i hi => by have := hb.pl i hi; omega)
  have hws := fun W (e : Ext w W) => wideS_any ss a sc W (hs.ext e).row hl
  have hov := fun W (e : Ext w W) => own_wide P W (hp.ext e) h1
  have hos : ∀ W, Ext w W → Calls Tryz.prog 46 #[.slice a ss.length sc] W (fun e w' => ∃ a' c' tt, e = .returned (.slice a' ss.length c') ∧ Ext W w' ∧ SetsAt w' a' tt ∧ ss.length ≤ c' ∧ SameSe ss tt) := fun W e => (ownSets_any a ss sc W (hs.ext e) (by omega) (fun i hi => by have := hl10 i hi; omega)).mono (by
    rintro e w' ⟨a', c', tt, rfl, he, hot, hst⟩
    exact ⟨a', c', tt, rfl, he, OwnSs.sets hot, by have := OwnF.lens hot.1; omega, hst⟩)
  have hva := fun W (e : Ext w W) => rValid_any P a ss sc W (hp.ext e) hb (hs.ext e) hn hl
  have hcy := fun W (e : Ext w W) => copy_run (oc := oc) W (ho.ext e) (by omega)
  obtain ⟨c1, c2, c3⟩ := checkE_ok h0
  have hf := (planOk c1).1
  have hcst := fun i hi => (anyFac_off (planOk c1).2.2.1 i hi).2.2
  have hln : ∀ i, i < ss.length → (eth ss i).lv.xs.length = P.fs.length := fun i hi => levB_len (setOk (c3 i hi)).1
  have hck : ∀ Q tt, SameP P Q → SameSe ss tt → checkE Q tt = 0 := fun Q tt s s2 => by rw [← check_same s s2]; exact h0
  obtain ⟨x, hxx⟩ : ∃ x, x = decide (xs.Perm (rngI ss.length)) := ⟨_, rfl⟩
  have h19 : ∀ Q W a' c' tt ya yc, SameP P Q → SameSe ss tt → PlanAt W Q → SetsAt W a' tt → Ints W ya xs → xs.length ≤ yc → Calls Tryz.prog 19 #[planV Q, .slice a' tt.length c', .slice ya xs.length yc] W (Ret (.tuple #[.int .i64 (chX x (chgV P.fs ss xs)), .int .i64 (ceX x)]) W) := fun Q W a' c' tt ya yc s s2 hq ht hy hyc => by
    have := Changes_ok Q a' tt c' ya xs yc W hq (hb.same s) ht (by rw [← s2.1]; exact c2) (fun i hi => by rw [← (s2.all i).1]; exact hl i (by rw [s2.1]; exact hi)) (hck Q tt s s2) hy (by omega) hyc
    rw [← s2.1, ← s.fs, ← s2.chgV] at this
    by_cases hpm : xs.Perm (rngI ss.length)
    · rw [if_pos hpm] at this
      have hxt : x = true := by rw [hxx]; exact decide_eq_true hpm
      rw [hxt, ← s2.1]; exact this
    · rw [if_neg hpm] at this
      have hxt : x = false := by rw [hxx]; exact decide_eq_false hpm
      rw [hxt, ← s2.1]; exact this
  have h20 : ∀ Q W a' c' tt, SameP P Q → SameSe ss tt → PlanAt W Q → SetsAt W a' tt → tt.length ≤ c' → Calls Tryz.prog 20 #[planV Q, .slice a' tt.length c'] W (Ret (.tuple #[.int .i64 (primF (costM P.fs ss) ss.length ss.length).2, .int .i64 0]) W) := fun Q W a' c' tt s s2 hq ht hcap => by
    have := least_ok sortEd sortEdN Q a' tt c' W hq (hb.same s) ht (by rw [← s2.1]; omega) hcap (fun i hi => by rw [← (s2.all i).1]; exact hl i (by rw [s2.1]; exact hi)) (hck Q tt s s2)
    rw [← s2.1, ← s.fs, ← s2.costM] at this
    rw [← s2.1]
    refine this.mono ?_
    rintro e w' ⟨es, he1, he2, rfl, he⟩
    rw [prim_kru (M := 8000) he1 he2 (costM_sym P.fs ss) (fun p q _ _ => costM_bd ss hf hcst p q)]
    exact ⟨rfl, he⟩
  have hio := fun W (e : Ext w W) => rIsOrder_any oa xs oc ss.length W (ho.ext e) (by omega) (by omega)
  rw [← hxx] at hio
  have hch : x = true → ∀ W, Ext w W → Calls Tryz.prog 66 #[planV P, .slice a ss.length sc, .slice oa xs.length oc] W (Ret (.int .i64 (chgV P.fs ss xs)) W) := fun hx1 W e => by
    have hpm : xs.Perm (rngI ss.length) := by rw [hxx] at hx1; simpa using hx1
    refine rChanges_any P a ss sc oa xs oc W (hp.ext e) hf hcst (hs.ext e) (by omega) hln (ho.ext e) (by omega) fun k hk => ?_
    have : nth xs k ∈ xs := by rw [nth_eq _ _ hk]; exact List.getElem_mem _
    obtain ⟨j, hj, e⟩ := rngI_mem.1 (hpm.mem_iff.1 this)
    omega
  have hle := fun W (e : Ext w W) => rLeast_any P a ss sc W (hp.ext e) hf hcst (hs.ext e) (by omega) hln
  obtain ⟨L, hL⟩ : ∃ L, L = refC (costM P.fs ss) ss.length ss.length [] := ⟨_, rfl⟩
  have hLo := refC_ok (T := costM P.fs ss) (n := ss.length) ss.length [] (fun x hx => by simp at hx)
  rw [← hL] at hLo
  have hrc : ∀ W, Ext w W → Calls Tryz.prog 68 #[planV P, .slice a ss.length sc, .slice none 0 0] W (fun e w' => ∃ ra rc, e = .returned (.slice ra (natI L).length rc) ∧ Ext W w' ∧ Ints w' ra (natI L)) := fun W e => by
    have := rCheap_any P a ss sc hf hcst (by omega) hln ss.length [] W none 0 (by simp) (fun x hx => by simp at hx) (hp.ext e) (hs.ext e) (.inl rfl)
    rw [← hL] at this
    exact this
  have hcl : ∀ W ra rc, Ext w W → Ints W ra (natI L) → Calls Tryz.prog 66 #[planV P, .slice a ss.length sc, .slice ra (natI L).length rc] W (Ret (.int .i64 (pathC (costM P.fs ss) L)) W) := fun W ra rc e hi => by
    have := rChanges_any P a ss sc ra (natI L) rc W (hp.ext e) hf hcst (hs.ext e) (by omega) hln hi (by rw [natI_len]; have := hLo.2; simp at this; omega) fun k hk => by
      rw [natI_len] at hk
      rw [natI_get L k hk]
      have h3 : L.getD k 0 ∈ L := by simp [List.getElem_mem, hk]
      have := hLo.1 _ h3
      omega
    rwa [chgV_nat] at this
  have h18 : ∀ Q W a' c' tt, SameP P Q → SameSe ss tt → PlanAt W Q → SetsAt W a' tt → Calls Tryz.prog 18 #[planV Q, .slice a' tt.length c'] W (fun e w' => ∃ la lc, e = .returned (.tuple #[.slice la (natI L).length lc, .int .i64 (pathC (costM P.fs ss) L), .int .i64 0]) ∧ Ext W w' ∧ Ints w' la (natI L)) := fun Q W a' c' tt s s2 hq ht => by
    have hk := hck Q tt s s2
    rcases Nat.eq_zero_or_pos ss.length with h00 | h00
    · have h01 : tt = [] := List.length_eq_zero_iff.1 (by rw [← s2.1]; exact h00)
      subst h01
      have hL0 : L = [] := by rw [hL, h00]; rfl
      rw [hL0]
      refine (cheapest_none Q a' c' W hq (hb.same s) ht hk).mono ?_
      rintro e w' ⟨rfl, he⟩
      exact ⟨none, 0, rfl, he, .inl rfl⟩
    · have := cheapest_ok Q a' tt c' W hq (hb.same s) ht (by rw [← s2.1]; exact h00) (by rw [← s2.1]; omega) (fun i hi => by rw [← (s2.all i).1]; exact hl i (by rw [s2.1]; exact hi)) hk
      rw [← s2.1, ← s.fs, ← s2.costM] at this
      rw [← s2.1]
      have hbd := fun p q (_ : p < ss.length) (_ : q < ss.length) => costM_bd ss hf hcst p q
      have h5 : L = cheapN (costM P.fs ss) ss.length := by rw [hL]; exact refC_all (by omega) hbd h00
      have h6 : cheapW (costM P.fs ss) ss.length = natI L := by rw [h5]; rfl
      have h7 : (cheapF (costM P.fs ss) ss.length).2 = pathC (costM P.fs ss) L := by rw [h5]; exact (cheap_ok (by omega) hbd h00).2.symm
      refine this.mono ?_
      rintro e w' ⟨la, lc, rfl, he, ho⟩
      rw [h6] at ho ⊢
      rw [h7]
      exact ⟨la, lc, rfl, he, ho.ints.1⟩
  rw [h0] at hva
  obtain ⟨Z, hZ⟩ : ∃ Z, Z = (primF (costM P.fs ss) ss.length ss.length).2 := ⟨_, rfl⟩
  obtain ⟨Y, hY⟩ : ∃ Y, Y = chgV P.fs ss xs := ⟨_, rfl⟩
  rw [← hZ] at h20 hle
  rw [← hY] at h19 hch
  obtain ⟨PC, hPC⟩ : ∃ PC, PC = pathC (costM P.fs ss) L := ⟨_, rfl⟩
  rw [← hPC] at h18 hcl
  have HL9 : Hid ((natI L).length ≤ 9) := by rw [Hid, natI_len]; have := hLo.2; simp at this; omega
  obtain ⟨l, hll⟩ : ∃ l, l = (natI L).length := ⟨_, rfl⟩
  have HLL : Hid ((natI L).length = l) := hll.symm
  rw [← hll] at h18 hcl hrc HL9
  rw [h1] at hwp
  rw [h2] at hws
  obtain ⟨P0, hP0⟩ : ∃ P0, P0 = P := ⟨_, rfl⟩
  rw [← hP0] at h19 h18 h20
  have HRP0 := Lib.hid hP0
  obtain ⟨fs, fa, fc, fo, ga, gc⟩ := P
  try simp only at hwp
  try simp only at hov
  try simp only at hva
  try simp only at hch
  try simp only at hle
  try simp only at hrc
  try simp only at hcl
  have HRC := Lib.hid hrc; have HCL := Lib.hid hcl
  have HIO := Lib.hid hio; have HCH := Lib.hid hch; have HLE := Lib.hid hle
  have HWP := Lib.hid hwp; have HWS := Lib.hid hws; have HOV := Lib.hid hov; have HOS := Lib.hid hos; have HVA := Lib.hid hva; have H19 := Lib.hid h19; have H18 := Lib.hid h18; have H20 := Lib.hid h20; have HCY := Lib.hid hcy
  obtain ⟨n, hnn⟩ : ∃ n, n = ss.length := ⟨_, rfl⟩
  have HNN := Lib.hid hnn
  rw [← hnn] at HWS HVA HOS hn5 hn12 HIO HCH HLE h6 HRC HCL ⊢
  clear hwp hws hov hos hva h19 h18 h20 hcy hp hs ho hb hn hl hl10 h1 h2 hnn hP0 hio hch hle hxx hZ hY c1 c2 c3 hf hcst hln hck h0 hL hLo hrc hcl hPC hll
  have hd : x = false ∨ x = true := by cases x <;> simp
  rcases hd with rfl | rfl <;> (
  simp only [chX, ceX] at H19
  go_enter Tryz.func14, Tryz.ntmps14
  go_upto_region 1 with fail
  generalize hw1 : World.alloc _ _ = w1
  obtain ⟨he, o1, -⟩ := alloc1 hw1
  obtain ⟨b0, b1⟩ := obj_cells2 o1
  have E1 := Ext.refl w1
  have HE := Lib.hid he
  clear hw1 o1 he
  go_wp2_with (fail)
  (with_reducible refine (HWP.out _ HE.out).mono ?_); rintro e w2 ⟨rfl, he2⟩
  go_wp2_with (fail)
  (with_reducible refine (HWS.out _ (HE.out.trans he2)).mono ?_); rintro e w3 ⟨rfl, he3⟩
  have HX3 : Hid (Ext w1 w3) := he2.trans he3
  have hx3 := HX3.out
  clear he2 he3
  go_wp2_with (fail)
  (with_reducible refine (HOV.out _ (HE.out.trans HX3.out)).mono ?_); rintro e w4 ⟨Q1, rfl, he, hq, hsp⟩
  rw [← HRP0.out] at hsp
  have HSP1 := Lib.hid hsp
  have HX4 : Hid (Ext w1 w4) := HX3.out.trans he
  have HQ := Lib.hid hq
  have hx4 := HX4.out
  clear he hq hsp hx3
  go_wp2_with (fail)
  (with_reducible refine (HOS.out _ (HE.out.trans HX4.out)).mono ?_); rintro e w5 ⟨ta, tc, tt, rfl, he, hot, hcap, hst⟩
  have HX5 : Hid (Ext w1 w5) := HX4.out.trans he
  have HQ1 := Lib.hid (HQ.out.ext he)
  have HT1 := Lib.hid hot
  have HST1 := Lib.hid hst
  have HTN1 : Hid (tt.length = n) := by rw [Hid, ← hst.1]; exact HNN.out.symm
  have HCP1 := Lib.hid hcap
  have hx5 := HX5.out
  clear he hot hst HQ hcap hx4
  have hcr := HCY.out w5 (HE.out.trans HX5.out)
  go_wp2_with (at_builtin; refine wpList_app _ rfl _ _ 31 rfl _ hcr ?_; rintro v' w6 ⟨⟨ya, yc, rfl, hyi, hyc⟩, he6⟩)
  have HX6 : Hid (Ext w1 w6) := HX5.out.trans he6
  have hx6 := HX6.out
  have h19 := H19.out Q1 w6 ta tc tt ya yc HSP1.out HST1.out (HQ1.out.ext he6) (HT1.out.ext he6) hyi hyc
  rw [HTN1.out] at h19
  obtain ⟨qs, qa, qc, qo, pa, pc⟩ := Q1
  clear hcr he6 hyi hyc hx5 HQ1 HT1 HST1 HSP1 HCP1
  go_wp2_with (fail)
  (with_reducible refine h19.mono ?_); rintro e w7 ⟨rfl, he7⟩
  have HX7 : Hid (Ext w1 w7) := HX6.out.trans he7
  have hx7 := HX7.out
  clear h19 he7 hx6 HTN1
  go_wp2_with (fail)
  (with_reducible refine (HOV.out _ (HE.out.trans HX7.out)).mono ?_); rintro e w8 ⟨Q2, rfl, he, hq, hsp⟩
  rw [← HRP0.out] at hsp
  have HSP2 := Lib.hid hsp
  have HX8 : Hid (Ext w1 w8) := HX7.out.trans he
  have HQ := Lib.hid hq
  have hx8 := HX8.out
  clear he hq hsp hx7
  go_wp2_with (fail)
  (with_reducible refine (HOS.out _ (HE.out.trans HX8.out)).mono ?_); rintro e w9 ⟨ta, tc, tt, rfl, he, hot, hcap, hst⟩
  have HX9 : Hid (Ext w1 w9) := HX8.out.trans he
  have HQ2 := Lib.hid (HQ.out.ext he)
  have HT2 := Lib.hid hot
  have HST2 := Lib.hid hst
  have HTN2 : Hid (tt.length = n) := by rw [Hid, ← hst.1]; exact HNN.out.symm
  have HCP2 := Lib.hid hcap
  have hx9 := HX9.out
  clear he hot hst HQ hcap hx8
  have h18 := H18.out Q2 w9 ta tc tt HSP2.out HST2.out HQ2.out HT2.out
  rw [HTN2.out] at h18
  obtain ⟨qs, qa, qc, qo, pa, pc⟩ := Q2
  clear HQ2 HT2 HST2 HSP2 HCP2
  go_wp2_with (fail)
  (with_reducible refine h18.mono ?_); rintro e w10 ⟨la, lc, rfl, he10, hli⟩
  have HLI := Lib.hid hli
  clear hli
  have HX10 : Hid (Ext w1 w10) := HX9.out.trans he10
  have HY10 : Hid (Ext w10 w10) := Ext.refl _
  have hx10 := HX10.out
  clear h18 he10 hx9 HTN2
  go_wp2_with (fail)
  (with_reducible refine (HOV.out _ (HE.out.trans HX10.out)).mono ?_); rintro e w11 ⟨Q3, rfl, he, hq, hsp⟩
  rw [← HRP0.out] at hsp
  have HSP3 := Lib.hid hsp
  have HX11 : Hid (Ext w1 w11) := HX10.out.trans he
  have HY11 : Hid (Ext w10 w11) := HY10.out.trans he
  have HQ := Lib.hid hq
  have hx11 := HX11.out
  clear he hq hsp hx10
  go_wp2_with (fail)
  (with_reducible refine (HOS.out _ (HE.out.trans HX11.out)).mono ?_); rintro e w12 ⟨ta, tc, tt, rfl, he, hot, hcap, hst⟩
  have HX12 : Hid (Ext w1 w12) := HX11.out.trans he
  have HY12 : Hid (Ext w10 w12) := HY11.out.trans he
  have HQ3 := Lib.hid (HQ.out.ext he)
  have HT3 := Lib.hid hot
  have HST3 := Lib.hid hst
  have HTN3 : Hid (tt.length = n) := by rw [Hid, ← hst.1]; exact HNN.out.symm
  have HCP3 := Lib.hid hcap
  have hx12 := HX12.out
  clear he hot hst HQ hcap hx11
  have h20 := H20.out Q3 w12 ta tc tt HSP3.out HST3.out HQ3.out HT3.out (by rw [HTN3.out]; exact HCP3.out)
  rw [HTN3.out] at h20
  obtain ⟨qs, qa, qc, qo, pa, pc⟩ := Q3
  clear HQ3 HT3 HST3 HSP3 HCP3
  go_wp2_with (fail)
  (with_reducible refine h20.mono ?_); rintro e w13 ⟨rfl, he13⟩
  have HX13 : Hid (Ext w1 w13) := HX12.out.trans he13
  have HY13 : Hid (Ext w10 w13) := HY12.out.trans he13
  have hx13 := HX13.out
  clear h20 he13 hx12 HTN3
  go_wp2_with (fail)
  (with_reducible refine (HVA.out _ (HE.out.trans HX13.out)).mono ?_); rintro e w14 ⟨rfl, he14⟩
  have HX14 : Hid (Ext w1 w14) := HX13.out.trans he14
  have HY14 : Hid (Ext w10 w14) := HY13.out.trans he14
  have hx14 := HX14.out
  clear he14 hx13
  go_wp2_with (fail)
  (with_reducible refine (HIO.out _ (HE.out.trans HX14.out)).mono ?_); rintro e w15 ⟨rfl, he15⟩
  have HX15 : Hid (Ext w1 w15) := HX14.out.trans he15
  have HY15 : Hid (Ext w10 w15) := HY14.out.trans he15
  have hx15 := HX15.out
  clear he15 hx14
  go_wp2_with (fail)
  first
    | ((with_reducible refine (HCH.out rfl _ (HE.out.trans HX15.out)).mono ?_); rintro e w16 ⟨rfl, he16⟩)
    | ((with_reducible refine (HCH.out (by trivial) _ (HE.out.trans HX15.out)).mono ?_); rintro e w16 ⟨rfl, he16⟩)
    | (obtain ⟨w16, rfl⟩ : ∃ w16 : World, w16 = w15 := ⟨_, rfl⟩; have he16 := Ext.refl w16)
  have HX16 : Hid (Ext w1 w16) := HX15.out.trans he16
  have HY16 : Hid (Ext w10 w16) := HY15.out.trans he16
  have hx16 := HX16.out
  clear he16 hx15
  try go_wp2_with (fail)
  (with_reducible refine (HLE.out _ (HE.out.trans HX16.out)).mono ?_); rintro e w17 ⟨rfl, he17⟩
  have HX17 : Hid (Ext w1 w17) := HX16.out.trans he17
  have HY17 : Hid (Ext w10 w17) := HY16.out.trans he17
  have hx17 := HX17.out
  clear he17 hx16
  go_wp2_with (fail)
  (with_reducible refine (HRC.out _ (HE.out.trans HX17.out)).mono ?_); rintro e w18 ⟨ra, rc, rfl, he18, hri⟩
  have HX18 : Hid (Ext w1 w18) := HX17.out.trans he18
  have hx18 := HX18.out
  have HRI := Lib.hid hri
  have HLI2 : Hid (Ints w18 la (natI L)) := HLI.out.ext (HY17.out.trans he18)
  clear he18 hx17 hri
  go_wp2_with (fail)
  (with_reducible refine (same_any (natI L) (natI L) la ra l l lc rc w18 HLI2.out HRI.out HLL.out HLL.out (by have := HL9.out; omega) (by have := HL9.out; omega)).mono ?_); rintro e w19 ⟨rfl, he19⟩
  rw [show sameB (natI L) (natI L) = true by simp [sameB]]
  have HX19 : Hid (Ext w1 w19) := HX18.out.trans he19
  have hx19 := HX19.out
  go_wp2_with (fail)
  (with_reducible refine (HCL.out _ ra rc (HE.out.trans HX19.out) (HRI.out.ext he19)).mono ?_); rintro e w20 ⟨rfl, he20⟩
  have hx20 := hx19.trans he20
  clear he19 hx18 hx19
  go_wp2_with (fail)
  (with_reducible refine (known_any _).mono ?_); rintro e w21 ⟨rfl, he21⟩
  go_wp2_with (fail)
  go_ret
  exact ⟨rfl, HE.out.trans (hx20.trans he21)⟩)
theorem changes_law (P : Pw) (a : Option Addr) (ss : List Se) (sc : Nat) (oa : Option Addr) (xs : List Int) (oc : Nat) (w : World) (hp : PlanAt w P) (hgl : ∀ i, i < P.fo.length → (gth P.fo i).xs.length ≤ 9223372036854775807) (hs : SetsAt w a ss) (hn : ss.length ≤ 9223372036854775807) (hl : ∀ i, i < ss.length → (eth ss i).lv.xs.length ≤ 9223372036854775807) (ho : Ints w oa xs) (hm : xs.length ≤ 9223372036854775807) :
    Calls Tryz.prog 14 #[planV P, .slice a ss.length sc, .slice oa xs.length oc] w (Ret (.bool true) w) := by
  by_cases h : wideP P.fs P.fo = true ∨ wideS ss = true ∨ 2005 < xs.length ∨ (6 < ss.length ∧ ss.length ≤ 9)
  · exact cg_wide P a ss sc oa xs.length oc w hp hgl hs hl hm h
  · obtain ⟨h1, h2⟩ := not_or.1 h
    obtain ⟨h2, h3⟩ := not_or.1 h2
    obtain ⟨h3, h4⟩ := not_or.1 h3
    have h1 : wideP P.fs P.fo = false := by simpa using h1
    have h2 : wideS ss = false := by simpa using h2
    have h3 : xs.length ≤ 2005 := by omega
    by_cases h0 : checkE P ss = 0
    · rcases Nat.lt_or_ge 9 ss.length with h9 | h9
      · exact cg_long P a ss sc oa xs oc w hp hs hn hl ho h1 h2 h3 h0 h9
      · exact cg_short P a ss sc oa xs oc w hp hs hn hl ho h1 h2 h3 h0 (by omega)
    · exact cg_err P a ss sc oa xs oc w hp hs hn hl ho h1 h2 h3 h4 h0
end Go.Proofs.YtplbofhgmflnlaaGreat
