/-
  Walk: MatrixChanges, too wide or refused.
-/
import Derived.Test.YtplbofhgmflnlaaGreatCH2
import Derived.Test.YtplbofhgmflnlaaGreatCH4
import Derived.Test.YtplbofhgmflnlaaGreatST2
set_option linter.unusedVariables false
set_option linter.unusedSimpArgs false
namespace Go.Proofs.YtplbofhgmflnlaaGreat
open Go.RowKit
def chX : Bool → Int → Int | true, y => y | false, _ => 0
def ceX : Bool → Int | true => 0 | false => 2
/-- 'append([]int{}, l...)'. -/
theorem copy_run {oa : Option Addr} {xs : List Int} {oc : Nat} (W : World) (ho : Ints W oa xs) (hx : xs.length ≤ 1000000) :
    ∃ v' w', (Builtin.append_ #[31, 31] 31 #[.slice (some ⟨W.heap.size, 0, none⟩) 0 0, .slice oa xs.length oc]).run Tryz.prog (W.alloc (.cells #[] 3)) = .ok v' w' ∧ (∃ a c, v' = .slice a xs.length c ∧ Ints w' a xs ∧ xs.length ≤ c) ∧ Ext W w' := by
  obtain ⟨v', w', r1, -, r2, r3⟩ := app_ints0 (W.alloc (.cells #[] 3)) W.heap.size W.heap.size 31 xs oa oc (heap_new _ _) (Nat.le_refl _) (ho.ext ((Ext.refl W).alloc _)) hx
  refine ⟨v', w', r1, ?_, grown_ext (v := .slice (some ⟨W.heap.size, 0, none⟩) 0 0) ((Ext.refl W).alloc _) r3 (fun k hk => by simp only [Value.ownBlock, Option.some.injEq] at hk; omega)⟩
  obtain ⟨a, n, c, rfl⟩ := own_slice r2
  obtain ⟨h1, rfl, -⟩ := r2.ints
  refine ⟨a, c, rfl, h1, ?_⟩
  rcases r2.2 with ⟨h, h'⟩ | ⟨g, cap, cur, h, _, _, h', _⟩
  · omega
  · simp only [Value.slice.injEq] at h
    omega
set_option maxRecDepth 100000 in
set_option maxHeartbeats 4000000 in
theorem cg_wide (P : Pw) (a : Option Addr) (ss : List Se) (sc : Nat) (oa : Option Addr) (m oc : Nat) (w : World) (hp : PlanAt w P) (hgl : ∀ i, i < P.fo.length → (gth P.fo i).xs.length ≤ 9223372036854775807) (hs : SetsAt w a ss) (hl : ∀ i, i < ss.length → (eth ss i).lv.xs.length ≤ 9223372036854775807) (hm : m ≤ 9223372036854775807)
    (h : wideP P.fs P.fo = true ∨ wideS ss = true ∨ 2005 < m ∨ (6 < ss.length ∧ ss.length ≤ 9)) :
    Calls Tryz.prog 14 #[planV P, .slice a ss.length sc, .slice oa m oc] w (Ret (.bool true) w) := by
  have hwp := fun W (e : Ext w W) => wideP_any P.fs P.fo P.fa P.ga P.fc P.gc W (hp.ext e).fo hgl
  have hws := fun W (e : Ext w W) => wideS_any ss a sc W (hs.ext e).row hl
  obtain ⟨x, hx⟩ : ∃ x, x = wideP P.fs P.fo := ⟨_, rfl⟩
  obtain ⟨y, hy⟩ : ∃ y, y = wideS ss := ⟨_, rfl⟩
  obtain ⟨fs, fa, fc, fo, ga, gc⟩ := P
  simp only at hwp hx h
  rw [← hx] at hwp h
  rw [← hy] at hws h
  have HWP := Lib.hid hwp; have HWS := Lib.hid hws
  obtain ⟨n, hn⟩ : ∃ n, n = ss.length := ⟨_, rfl⟩
  rw [← hn] at HWS h ⊢
  clear hwp hws hp hs hgl hl hx hy hn
  have hd : x = true ∨ (x = false ∧ y = true) ∨ (x = false ∧ y = false ∧ 2005 < m) ∨ (x = false ∧ y = false ∧ m ≤ 2005 ∧ 6 < n ∧ n ≤ 9) := by
    cases x <;> cases y <;> simp at h ⊢
    omega
  clear h
  rcases hd with rfl | ⟨rfl, rfl⟩ | ⟨rfl, rfl, h1⟩ | ⟨rfl, rfl, h1, h2, h3⟩ <;> (
  go_enter Tryz.func14, Tryz.ntmps14
  go_upto_region 1 with fail
  generalize hw1 : World.alloc _ _ = w1
  obtain ⟨he, o1, -⟩ := alloc1 hw1
  obtain ⟨b0, b1⟩ := obj_cells2 o1
  have E1 := Ext.refl w1
  have HE := Lib.hid he
  clear hw1 o1 he
  go_wp2_with (first
    | (go_at_call 15; (with_reducible refine (HWP.out _ HE.out).mono ?_); rintro e w2 ⟨rfl, he2⟩; have HE2 : Hid (Ext w w2) := HE.out.trans he2)
    | (go_at_call 16; (with_reducible refine (HWS.out _ HE2.out).mono ?_); rintro e w3 ⟨rfl, he3⟩; have HE3 : Hid (Ext w w3) := HE2.out.trans he3)
    | (go_at_call 17; (with_reducible refine (known_any _).mono ?_); rintro e w4 ⟨rfl, he4⟩))
  go_ret
  first | exact ⟨rfl, HE3.out.trans he4⟩ | exact ⟨rfl, HE2.out.trans he4⟩)
set_option maxRecDepth 100000 in
set_option maxHeartbeats 8000000 in
theorem cg_err (P : Pw) (a : Option Addr) (ss : List Se) (sc : Nat) (oa : Option Addr) (xs : List Int) (oc : Nat) (w : World) (hp : PlanAt w P) (hs : SetsAt w a ss) (hn : ss.length ≤ 9223372036854775807) (hl : ∀ i, i < ss.length → (eth ss i).lv.xs.length ≤ 9223372036854775807) (ho : Ints w oa xs)
    (h1 : wideP P.fs P.fo = false) (h2 : wideS ss = false) (hx : xs.length ≤ 2005) (h69 : ¬ (6 < ss.length ∧ ss.length ≤ 9)) (h0 : checkE P ss ≠ 0) :
    Calls Tryz.prog 14 #[planV P, .slice a ss.length sc, .slice oa xs.length oc] w (Ret (.bool true) w) := by
  have hb := planB_wide h1
  obtain ⟨hn5, hn12, hl10⟩ := wideS_no h2
  have hwp := fun W (e : Ext w W) => wideP_any P.fs P.fo P.fa P.ga P.fc P.gc W (hp.ext e).fo (fun i hi => by have := hb.pl i hi; omega)
  have hws := fun W (e : Ext w W) => wideS_any ss a sc W (hs.ext e).row hl
  have hov := fun W (e : Ext w W) => own_wide P W (hp.ext e) h1
  have hos : ∀ W, Ext w W → Calls Tryz.prog 46 #[.slice a ss.length sc] W (fun e w' => ∃ a' c' tt, e = .returned (.slice a' ss.length c') ∧ Ext W w' ∧ SetsAt w' a' tt ∧ ss.length ≤ c' ∧ SameSe ss tt) := fun W e => (ownSets_any a ss sc W (hs.ext e) (by omega) (fun i hi => by have := hl10 i hi; omega)).mono (by
    rintro e w' ⟨a', c', tt, rfl, he, hot, hst⟩
    exact ⟨a', c', tt, rfl, he, OwnSs.sets hot, by have := OwnF.lens hot.1; omega, hst⟩)
  have hva := fun W (e : Ext w W) => rValid_any P a ss sc W (hp.ext e) hb (hs.ext e) hn hl
  have hcy := fun W (e : Ext w W) => copy_run (oc := oc) W (ho.ext e) (by omega)
  have h19 : ∀ Q W a' c' tt ya yc, SameP P Q → SameSe ss tt → PlanAt W Q → SetsAt W a' tt → Ints W ya xs → xs.length ≤ yc → Calls Tryz.prog 19 #[planV Q, .slice a' tt.length c', .slice ya xs.length yc] W (Ret (.tuple #[.int .i64 0, .int .i64 (checkE P ss)]) W) := fun Q W a' c' tt ya yc s s2 hq ht hy hyc => by
    rw [check_same s s2]
    exact Changes_err Q a' tt c' _ W hq (hb.same s) ht (by rw [← s2.1]; exact hn) (fun i hi => by rw [← (s2.all i).1]; exact hl i (by rw [s2.1]; exact hi)) (by rw [← check_same s s2]; exact h0)
  have h18 : ∀ Q W a' c' tt, SameP P Q → SameSe ss tt → PlanAt W Q → SetsAt W a' tt → Calls Tryz.prog 18 #[planV Q, .slice a' tt.length c'] W (Ret (.tuple #[.slice none 0 0, .int .i64 0, .int .i64 (checkE P ss)]) W) := fun Q W a' c' tt s s2 hq ht =>
    cheapest_no Q a' tt c' W hq (hb.same s) ht (by rw [← s2.1]; exact hn) (fun i hi => by rw [← (s2.all i).1]; exact hl i (by rw [s2.1]; exact hi)) _ (check_same s s2).symm h0
  have h20 : ∀ Q W a' c' tt, SameP P Q → SameSe ss tt → PlanAt W Q → SetsAt W a' tt → tt.length ≤ c' → Calls Tryz.prog 20 #[planV Q, .slice a' tt.length c'] W (Ret (.tuple #[.int .i64 0, .int .i64 (checkE P ss)]) W) := fun Q W a' c' tt s s2 hq ht _ =>
    least_no Q a' tt c' W hq (hb.same s) ht (by rw [← s2.1]; exact hn) (fun i hi => by rw [← (s2.all i).1]; exact hl i (by rw [s2.1]; exact hi)) _ (check_same s s2).symm h0
  obtain ⟨v, hv⟩ : ∃ v, v = checkE P ss := ⟨_, rfl⟩
  rw [← hv] at hva h19 h18 h20 h0
  have hv0 : (v != 0) = true := by simpa using h0
  rw [h1] at hwp
  rw [h2] at hws
  obtain ⟨P0, hP0⟩ : ∃ P0, P0 = P := ⟨_, rfl⟩
  rw [← hP0] at h19 h18 h20
  have HRP0 := Lib.hid hP0
  obtain ⟨fs, fa, fc, fo, ga, gc⟩ := P
  try simp only at hwp
  try simp only at hov
  try simp only at hva
  have HWP := Lib.hid hwp; have HWS := Lib.hid hws; have HOV := Lib.hid hov; have HOS := Lib.hid hos; have HVA := Lib.hid hva; have H19 := Lib.hid h19; have H18 := Lib.hid h18; have H20 := Lib.hid h20; have HCY := Lib.hid hcy
  obtain ⟨n, hnn⟩ : ∃ n, n = ss.length := ⟨_, rfl⟩
  have HNN := Lib.hid hnn
  rw [← hnn] at HWS HVA HOS hn5 hn12 h69 ⊢
  clear hwp hws hov hos hva h19 h18 h20 hcy hp hs ho hb hn hl hl10 h1 h2 hnn hP0 hv h0
  have hn6 : n ≤ 6 ∨ 9 < n := by omega
  rcases hn6 with hn6 | hn6 <;> (
  go_enter Tryz.func14, Tryz.ntmps14
  go_upto_region 1 with fail
  generalize hw1 : World.alloc _ _ = w1
  obtain ⟨he, o1, -⟩ := alloc1 hw1
  obtain ⟨b0, b1⟩ := obj_cells2 o1
  have E1 := Ext.refl w1
  have HE := Lib.hid he
  clear hw1 o1 he
  go_wp2_with (fail)
  (with_reducible refine (HWP.out _ HE.out).mono ?_); rintro e w2 ⟨rfl, he2⟩
  go_wp2_with (fail)
  (with_reducible refine (HWS.out _ (HE.out.trans he2)).mono ?_); rintro e w3 ⟨rfl, he3⟩
  have HX3 : Hid (Ext w1 w3) := he2.trans he3
  have hx3 := HX3.out
  clear he2 he3
  go_wp2_with (fail)
  (with_reducible refine (HOV.out _ (HE.out.trans HX3.out)).mono ?_); rintro e w4 ⟨Q1, rfl, he, hq, hsp⟩
  rw [← HRP0.out] at hsp
  have HSP1 := Lib.hid hsp
  have HX4 : Hid (Ext w1 w4) := HX3.out.trans he
  have HQ := Lib.hid hq
  have hx4 := HX4.out
  clear he hq hsp hx3
  go_wp2_with (fail)
  (with_reducible refine (HOS.out _ (HE.out.trans HX4.out)).mono ?_); rintro e w5 ⟨ta, tc, tt, rfl, he, hot, hcap, hst⟩
  have HX5 : Hid (Ext w1 w5) := HX4.out.trans he
  have HQ1 := Lib.hid (HQ.out.ext he)
  have HT1 := Lib.hid hot
  have HST1 := Lib.hid hst
  have HTN1 : Hid (tt.length = n) := by rw [Hid, ← hst.1]; exact HNN.out.symm
  have HCP1 := Lib.hid hcap
  have hx5 := HX5.out
  clear he hot hst HQ hcap hx4
  have hcr := HCY.out w5 (HE.out.trans HX5.out)
  go_wp2_with (at_builtin; refine wpList_app _ rfl _ _ 31 rfl _ hcr ?_; rintro v' w6 ⟨⟨ya, yc, rfl, hyi, hyc⟩, he6⟩)
  have HX6 : Hid (Ext w1 w6) := HX5.out.trans he6
  have hx6 := HX6.out
  have h19 := H19.out Q1 w6 ta tc tt ya yc HSP1.out HST1.out (HQ1.out.ext he6) (HT1.out.ext he6) hyi hyc
  rw [HTN1.out] at h19
  obtain ⟨qs, qa, qc, qo, pa, pc⟩ := Q1
  clear hcr he6 hyi hyc hx5 HQ1 HT1 HST1 HSP1 HCP1
  go_wp2_with (fail)
  (with_reducible refine h19.mono ?_); rintro e w7 ⟨rfl, he7⟩
  have HX7 : Hid (Ext w1 w7) := HX6.out.trans he7
  have hx7 := HX7.out
  clear h19 he7 hx6 HTN1
  go_wp2_with (fail)
  (with_reducible refine (HOV.out _ (HE.out.trans HX7.out)).mono ?_); rintro e w8 ⟨Q2, rfl, he, hq, hsp⟩
  rw [← HRP0.out] at hsp
  have HSP2 := Lib.hid hsp
  have HX8 : Hid (Ext w1 w8) := HX7.out.trans he
  have HQ := Lib.hid hq
  have hx8 := HX8.out
  clear he hq hsp hx7
  go_wp2_with (fail)
  (with_reducible refine (HOS.out _ (HE.out.trans HX8.out)).mono ?_); rintro e w9 ⟨ta, tc, tt, rfl, he, hot, hcap, hst⟩
  have HX9 : Hid (Ext w1 w9) := HX8.out.trans he
  have HQ2 := Lib.hid (HQ.out.ext he)
  have HT2 := Lib.hid hot
  have HST2 := Lib.hid hst
  have HTN2 : Hid (tt.length = n) := by rw [Hid, ← hst.1]; exact HNN.out.symm
  have HCP2 := Lib.hid hcap
  have hx9 := HX9.out
  clear he hot hst HQ hcap hx8
  have h18 := H18.out Q2 w9 ta tc tt HSP2.out HST2.out HQ2.out HT2.out
  rw [HTN2.out] at h18
  obtain ⟨qs, qa, qc, qo, pa, pc⟩ := Q2
  clear HQ2 HT2 HST2 HSP2 HCP2
  go_wp2_with (fail)
  (with_reducible refine h18.mono ?_); rintro e w10 ⟨rfl, he10⟩
  have HX10 : Hid (Ext w1 w10) := HX9.out.trans he10
  have hx10 := HX10.out
  clear h18 he10 hx9 HTN2
  go_wp2_with (fail)
  (with_reducible refine (HOV.out _ (HE.out.trans HX10.out)).mono ?_); rintro e w11 ⟨Q3, rfl, he, hq, hsp⟩
  rw [← HRP0.out] at hsp
  have HSP3 := Lib.hid hsp
  have HX11 : Hid (Ext w1 w11) := HX10.out.trans he
  have HQ := Lib.hid hq
  have hx11 := HX11.out
  clear he hq hsp hx10
  go_wp2_with (fail)
  (with_reducible refine (HOS.out _ (HE.out.trans HX11.out)).mono ?_); rintro e w12 ⟨ta, tc, tt, rfl, he, hot, hcap, hst⟩
  have HX12 : Hid (Ext w1 w12) := HX11.out.trans he
  have HQ3 := Lib.hid (HQ.out.ext he)
  have HT3 := Lib.hid hot
  have HST3 := Lib.hid hst
  have HTN3 : Hid (tt.length = n) := by rw [Hid, ← hst.1]; exact HNN.out.symm
  have HCP3 := Lib.hid hcap
  have hx12 := HX12.out
  clear he hot hst HQ hcap hx11
  have h20 := H20.out Q3 w12 ta tc tt HSP3.out HST3.out HQ3.out HT3.out (by rw [HTN3.out]; exact HCP3.out)
  rw [HTN3.out] at h20
  obtain ⟨qs, qa, qc, qo, pa, pc⟩ := Q3
  clear HQ3 HT3 HST3 HSP3 HCP3
  go_wp2_with (fail)
  (with_reducible refine h20.mono ?_); rintro e w13 ⟨rfl, he13⟩
  have HX13 : Hid (Ext w1 w13) := HX12.out.trans he13
  have hx13 := HX13.out
  clear h20 he13 hx12 HTN3
  go_wp2_with (fail)
  (with_reducible refine (HVA.out _ (HE.out.trans HX13.out)).mono ?_); rintro e w14 ⟨rfl, he14⟩
  have HX14 : Hid (Ext w1 w14) := HX13.out.trans he14
  have hx14 := HX14.out
  clear he14 hx13
  go_wp2_with (fail)
  (with_reducible refine (known_any _).mono ?_); rintro e w15 ⟨rfl, he15⟩
  go_wp2_with (fail)
  go_ret
  exact ⟨rfl, HE.out.trans (HX14.out.trans he15)⟩)
end Go.Proofs.YtplbofhgmflnlaaGreat
