/-
  Walk: MatrixChanges, more than nine settings.
-/
import Derived.Test.YtplbofhgmflnlaaGreatCJ1
set_option linter.unusedVariables false
set_option linter.unusedSimpArgs false
namespace Go.Proofs.YtplbofhgmflnlaaGreat
open Go.RowKit
set_option maxRecDepth 100000 in
set_option maxHeartbeats 8000000 in
theorem cg_long (P : Pw) (a : Option Addr) (ss : List Se) (sc : Nat) (oa : Option Addr) (xs : List Int) (oc : Nat) (w : World) (hp : PlanAt w P) (hs : SetsAt w a ss) (hn : ss.length ≤ 9223372036854775807) (hl : ∀ i, i < ss.length → (eth ss i).lv.xs.length ≤ 9223372036854775807) (ho : Ints w oa xs)
    (h1 : wideP P.fs P.fo = false) (h2 : wideS ss = false) (hx : xs.length ≤ 2005) (h0 : checkE P ss = 0) (h9 : 9 < ss.length) :
    Calls Tryz.prog 14 #[planV P, .slice a ss.length sc, .slice oa xs.length oc] w (Ret (.bool true) w) := by
  have hb := planB_wide h1
  obtain ⟨hn5, hn12, hl10⟩ := wideS_no h2
  have hwp := fun W (e : Ext w W) => wideP_any P.fs P.fo P.fa P.ga P.fc P.gc W (hp.ext e).fo (fun i hi => by have := hb.pl i hi; omega)
  have hws := fun W (e : Ext w W) => wideS_any ss a sc W (hs.ext e).row hl
  have hov := fun W (e : Ext w W) => own_wide P W (hp.ext e) h1
  have hos : ∀ W, Ext w W → Calls Tryz.prog 46 #[.slice a ss.length sc] W (fun e w' => ∃ a' c' tt, e = .returned (.slice a' ss.length c') ∧ Ext W w' ∧ SetsAt w' a' tt ∧ ss.length ≤ c' ∧ SameSe ss tt) := fun W e => (ownSets_any a ss sc W (hs.ext e) (by omega) (fun i hi => by have := hl10 i hi; omega)).mono (by
    rintro e w' ⟨a', c', tt, rfl, he, hot, hst⟩
    exact ⟨a', c', tt, rfl, he, OwnSs.sets hot, by have := OwnF.lens hot.1; omega, hst⟩)
  have hva := fun W (e : Ext w W) => rValid_any P a ss sc W (hp.ext e) hb (hs.ext e) hn hl
  have hcy := fun W (e : Ext w W) => copy_run (oc := oc) W (ho.ext e) (by omega)
  obtain ⟨c1, c2, c3⟩ := checkE_ok h0
  have hf := (planOk c1).1
  have hcst := fun i hi => (anyFac_off (planOk c1).2.2.1 i hi).2.2
  have hln : ∀ i, i < ss.length → (eth ss i).lv.xs.length = P.fs.length := fun i hi => levB_len (setOk (c3 i hi)).1
  have hck : ∀ Q tt, SameP P Q → SameSe ss tt → checkE Q tt = 0 := fun Q tt s s2 => by rw [← check_same s s2]; exact h0
  obtain ⟨x, hxx⟩ : ∃ x, x = decide (xs.Perm (rngI ss.length)) := ⟨_, rfl⟩
  have h19 : ∀ Q W a' c' tt ya yc, SameP P Q → SameSe ss tt → PlanAt W Q → SetsAt W a' tt → Ints W ya xs → xs.length ≤ yc → Calls Tryz.prog 19 #[planV Q, .slice a' tt.length c', .slice ya xs.length yc] W (Ret (.tuple #[.int .i64 (chX x (chgV P.fs ss xs)), .int .i64 (ceX x)]) W) := fun Q W a' c' tt ya yc s s2 hq ht hy hyc => by
    have := Changes_ok Q a' tt c' ya xs yc W hq (hb.same s) ht (by rw [← s2.1]; exact c2) (fun i hi => by rw [← (s2.all i).1]; exact hl i (by rw [s2.1]; exact hi)) (hck Q tt s s2) hy (by omega) hyc
    rw [← s2.1, ← s.fs, ← s2.chgV] at this
    by_cases hpm : xs.Perm (rngI ss.length)
    · rw [if_pos hpm] at this
      have hxt : x = true := by rw [hxx]; exact decide_eq_true hpm
      rw [hxt, ← s2.1]; exact this
    · rw [if_neg hpm] at this
      have hxt : x = false := by rw [hxx]; exact decide_eq_false hpm
      rw [hxt, ← s2.1]; exact this
  have h20 : ∀ Q W a' c' tt, SameP P Q → SameSe ss tt → PlanAt W Q → SetsAt W a' tt → tt.length ≤ c' → Calls Tryz.prog 20 #[planV Q, .slice a' tt.length c'] W (Ret (.tuple #[.int .i64 (primF (costM P.fs ss) ss.length ss.length).2, .int .i64 0]) W) := fun Q W a' c' tt s s2 hq ht hcap => by
    have := least_ok sortEd sortEdN Q a' tt c' W hq (hb.same s) ht (by rw [← s2.1]; omega) hcap (fun i hi => by rw [← (s2.all i).1]; exact hl i (by rw [s2.1]; exact hi)) (hck Q tt s s2)
    rw [← s2.1, ← s.fs, ← s2.costM] at this
    rw [← s2.1]
    refine this.mono ?_
    rintro e w' ⟨es, he1, he2, rfl, he⟩
    rw [prim_kru (M := 8000) he1 he2 (costM_sym P.fs ss) (fun p q _ _ => costM_bd ss hf hcst p q)]
    exact ⟨rfl, he⟩
  have hio := fun W (e : Ext w W) => rIsOrder_any oa xs oc ss.length W (ho.ext e) (by omega) (by omega)
  rw [← hxx] at hio
  have hch : x = true → ∀ W, Ext w W → Calls Tryz.prog 66 #[planV P, .slice a ss.length sc, .slice oa xs.length oc] W (Ret (.int .i64 (chgV P.fs ss xs)) W) := fun hx1 W e => by
    have hpm : xs.Perm (rngI ss.length) := by rw [hxx] at hx1; simpa using hx1
    refine rChanges_any P a ss sc oa xs oc W (hp.ext e) hf hcst (hs.ext e) (by omega) hln (ho.ext e) (by omega) fun k hk => ?_
    have : nth xs k ∈ xs := by rw [nth_eq _ _ hk]; exact List.getElem_mem _
    obtain ⟨j, hj, e⟩ := rngI_mem.1 (hpm.mem_iff.1 this)
    omega
  have hle := fun W (e : Ext w W) => rLeast_any P a ss sc W (hp.ext e) hf hcst (hs.ext e) (by omega) hln
  have h18 : ∀ Q W a' c' tt, SameP P Q → SameSe ss tt → PlanAt W Q → SetsAt W a' tt → Calls Tryz.prog 18 #[planV Q, .slice a' tt.length c'] W (Ret (.tuple #[.slice none 0 0, .int .i64 0, .int .i64 5]) W) := fun Q W a' c' tt s s2 hq ht =>
    cheapest_long Q a' tt c' W hq (hb.same s) ht (by rw [← s2.1]; exact hn) (fun i hi => by rw [← (s2.all i).1]; exact hl i (by rw [s2.1]; exact hi)) (hck Q tt s s2) (by rw [← s2.1]; exact h9)
  rw [h0] at hva
  obtain ⟨Z, hZ⟩ : ∃ Z, Z = (primF (costM P.fs ss) ss.length ss.length).2 := ⟨_, rfl⟩
  obtain ⟨Y, hY⟩ : ∃ Y, Y = chgV P.fs ss xs := ⟨_, rfl⟩
  rw [← hZ] at h20 hle
  rw [← hY] at h19 hch
  rw [h1] at hwp
  rw [h2] at hws
  obtain ⟨P0, hP0⟩ : ∃ P0, P0 = P := ⟨_, rfl⟩
  rw [← hP0] at h19 h18 h20
  have HRP0 := Lib.hid hP0
  obtain ⟨fs, fa, fc, fo, ga, gc⟩ := P
  try simp only at hwp
  try simp only at hov
  try simp only at hva
  try simp only at hch
  try simp only at hle
  have HIO := Lib.hid hio; have HCH := Lib.hid hch; have HLE := Lib.hid hle
  have HWP := Lib.hid hwp; have HWS := Lib.hid hws; have HOV := Lib.hid hov; have HOS := Lib.hid hos; have HVA := Lib.hid hva; have H19 := Lib.hid h19; have H18 := Lib.hid h18; have H20 := Lib.hid h20; have HCY := Lib.hid hcy
  obtain ⟨n, hnn⟩ : ∃ n, n = ss.length := ⟨_, rfl⟩
  have HNN := Lib.hid hnn
  rw [← hnn] at HWS HVA HOS hn5 hn12 HIO HCH HLE h9 ⊢
  clear hwp hws hov hos hva h19 h18 h20 hcy hp hs ho hb hn hl hl10 h1 h2 hnn hP0 hio hch hle hxx hZ hY c1 c2 c3 hf hcst hln hck h0 
  have hd : x = false ∨ x = true := by cases x <;> simp
  rcases hd with rfl | rfl <;> (
  simp only [chX, ceX] at H19
  go_enter Tryz.func14, Tryz.ntmps14
  go_upto_region 1 with fail
  generalize hw1 : World.alloc _ _ = w1
  obtain ⟨he, o1, -⟩ := alloc1 hw1
  obtain ⟨b0, b1⟩ := obj_cells2 o1
  have E1 := Ext.refl w1
  have HE := Lib.hid he
  clear hw1 o1 he
  go_wp2_with (fail)
  (with_reducible refine (HWP.out _ HE.out).mono ?_); rintro e w2 ⟨rfl, he2⟩
  go_wp2_with (fail)
  (with_reducible refine (HWS.out _ (HE.out.trans he2)).mono ?_); rintro e w3 ⟨rfl, he3⟩
  have HX3 : Hid (Ext w1 w3) := he2.trans he3
  have hx3 := HX3.out
  clear he2 he3
  go_wp2_with (fail)
  (with_reducible refine (HOV.out _ (HE.out.trans HX3.out)).mono ?_); rintro e w4 ⟨Q1, rfl, he, hq, hsp⟩
  rw [← HRP0.out] at hsp
  have HSP1 := Lib.hid hsp
  have HX4 : Hid (Ext w1 w4) := HX3.out.trans he
  have HQ := Lib.hid hq
  have hx4 := HX4.out
  clear he hq hsp hx3
  go_wp2_with (fail)
  (with_reducible refine (HOS.out _ (HE.out.trans HX4.out)).mono ?_); rintro e w5 ⟨ta, tc, tt, rfl, he, hot, hcap, hst⟩
  have HX5 : Hid (Ext w1 w5) := HX4.out.trans he
  have HQ1 := Lib.hid (HQ.out.ext he)
  have HT1 := Lib.hid hot
  have HST1 := Lib.hid hst
  have HTN1 : Hid (tt.length = n) := by rw [Hid, ← hst.1]; exact HNN.out.symm
  have HCP1 := Lib.hid hcap
  have hx5 := HX5.out
  clear he hot hst HQ hcap hx4
  have hcr := HCY.out w5 (HE.out.trans HX5.out)
  go_wp2_with (at_builtin; refine wpList_app _ rfl _ _ 31 rfl _ hcr ?_; rintro v' w6 ⟨⟨ya, yc, rfl, hyi, hyc⟩, he6⟩)
  have HX6 : Hid (Ext w1 w6) := HX5.out.trans he6
  have hx6 := HX6.out
  have h19 := H19.out Q1 w6 ta tc tt ya yc HSP1.out HST1.out (HQ1.out.ext he6) (HT1.out.ext he6) hyi hyc
  rw [HTN1.out] at h19
  obtain ⟨qs, qa, qc, qo, pa, pc⟩ := Q1
  clear hcr he6 hyi hyc hx5 HQ1 HT1 HST1 HSP1 HCP1
  go_wp2_with (fail)
  (with_reducible refine h19.mono ?_); rintro e w7 ⟨rfl, he7⟩
  have HX7 : Hid (Ext w1 w7) := HX6.out.trans he7
  have hx7 := HX7.out
  clear h19 he7 hx6 HTN1
  go_wp2_with (fail)
  (with_reducible refine (HOV.out _ (HE.out.trans HX7.out)).mono ?_); rintro e w8 ⟨Q2, rfl, he, hq, hsp⟩
  rw [← HRP0.out] at hsp
  have HSP2 := Lib.hid hsp
  have HX8 : Hid (Ext w1 w8) := HX7.out.trans he
  have HQ := Lib.hid hq
  have hx8 := HX8.out
  clear he hq hsp hx7
  go_wp2_with (fail)
  (with_reducible refine (HOS.out _ (HE.out.trans HX8.out)).mono ?_); rintro e w9 ⟨ta, tc, tt, rfl, he, hot, hcap, hst⟩
  have HX9 : Hid (Ext w1 w9) := HX8.out.trans he
  have HQ2 := Lib.hid (HQ.out.ext he)
  have HT2 := Lib.hid hot
  have HST2 := Lib.hid hst
  have HTN2 : Hid (tt.length = n) := by rw [Hid, ← hst.1]; exact HNN.out.symm
  have HCP2 := Lib.hid hcap
  have hx9 := HX9.out
  clear he hot hst HQ hcap hx8
  have h18 := H18.out Q2 w9 ta tc tt HSP2.out HST2.out HQ2.out HT2.out
  rw [HTN2.out] at h18
  obtain ⟨qs, qa, qc, qo, pa, pc⟩ := Q2
  clear HQ2 HT2 HST2 HSP2 HCP2
  go_wp2_with (fail)
  (with_reducible refine h18.mono ?_); rintro e w10 ⟨rfl, he10⟩
  have HX10 : Hid (Ext w1 w10) := HX9.out.trans he10
  have hx10 := HX10.out
  clear h18 he10 hx9 HTN2
  go_wp2_with (fail)
  (with_reducible refine (HOV.out _ (HE.out.trans HX10.out)).mono ?_); rintro e w11 ⟨Q3, rfl, he, hq, hsp⟩
  rw [← HRP0.out] at hsp
  have HSP3 := Lib.hid hsp
  have HX11 : Hid (Ext w1 w11) := HX10.out.trans he
  have HQ := Lib.hid hq
  have hx11 := HX11.out
  clear he hq hsp hx10
  go_wp2_with (fail)
  (with_reducible refine (HOS.out _ (HE.out.trans HX11.out)).mono ?_); rintro e w12 ⟨ta, tc, tt, rfl, he, hot, hcap, hst⟩
  have HX12 : Hid (Ext w1 w12) := HX11.out.trans he
  have HQ3 := Lib.hid (HQ.out.ext he)
  have HT3 := Lib.hid hot
  have HST3 := Lib.hid hst
  have HTN3 : Hid (tt.length = n) := by rw [Hid, ← hst.1]; exact HNN.out.symm
  have HCP3 := Lib.hid hcap
  have hx12 := HX12.out
  clear he hot hst HQ hcap hx11
  have h20 := H20.out Q3 w12 ta tc tt HSP3.out HST3.out HQ3.out HT3.out (by rw [HTN3.out]; exact HCP3.out)
  rw [HTN3.out] at h20
  obtain ⟨qs, qa, qc, qo, pa, pc⟩ := Q3
  clear HQ3 HT3 HST3 HSP3 HCP3
  go_wp2_with (fail)
  (with_reducible refine h20.mono ?_); rintro e w13 ⟨rfl, he13⟩
  have HX13 : Hid (Ext w1 w13) := HX12.out.trans he13
  have hx13 := HX13.out
  clear h20 he13 hx12 HTN3
  go_wp2_with (fail)
  (with_reducible refine (HVA.out _ (HE.out.trans HX13.out)).mono ?_); rintro e w14 ⟨rfl, he14⟩
  have HX14 : Hid (Ext w1 w14) := HX13.out.trans he14
  have hx14 := HX14.out
  clear he14 hx13
  go_wp2_with (fail)
  (with_reducible refine (HIO.out _ (HE.out.trans HX14.out)).mono ?_); rintro e w15 ⟨rfl, he15⟩
  have HX15 : Hid (Ext w1 w15) := HX14.out.trans he15
  have hx15 := HX15.out
  clear he15 hx14
  go_wp2_with (fail)
  first
    | ((with_reducible refine (HCH.out rfl _ (HE.out.trans HX15.out)).mono ?_); rintro e w16 ⟨rfl, he16⟩)
    | ((with_reducible refine (HCH.out (by trivial) _ (HE.out.trans HX15.out)).mono ?_); rintro e w16 ⟨rfl, he16⟩)
    | (obtain ⟨w16, rfl⟩ : ∃ w16 : World, w16 = w15 := ⟨_, rfl⟩; have he16 := Ext.refl w16)
  have HX16 : Hid (Ext w1 w16) := HX15.out.trans he16
  have hx16 := HX16.out
  clear he16 hx15
  try go_wp2_with (fail)
  (with_reducible refine (HLE.out _ (HE.out.trans HX16.out)).mono ?_); rintro e w17 ⟨rfl, he17⟩
  have HX17 : Hid (Ext w1 w17) := HX16.out.trans he17
  have hx17 := HX17.out
  clear he17 hx16
  go_wp2_with (fail)
  (with_reducible refine (known_any _).mono ?_); rintro e w18 ⟨rfl, he18⟩
  go_wp2_with (fail)
  go_ret
  exact ⟨rfl, HE.out.trans (HX17.out.trans he18)⟩)
end Go.Proofs.YtplbofhgmflnlaaGreat
