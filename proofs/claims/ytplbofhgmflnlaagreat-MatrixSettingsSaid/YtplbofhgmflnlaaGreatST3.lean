/-
  Walk: MatrixSettings, where the plan is valid.
-/
import Derived.Test.YtplbofhgmflnlaaGreatST2
set_option linter.unusedVariables false
set_option linter.unusedSimpArgs false
namespace Go.Proofs.YtplbofhgmflnlaaGreat
open Go.RowKit
/-- The two lists of settings while the first one's rows, from row i on still as they were, are written over. -/
structure StR (w4 wr : World) (M : Nat) (vs ms : List (Sl Int)) (L V : Value) (i : Nat) : Prop where
  ext : Ext w4 wr
  hd : OwnV wr w4.heap.size L vs
  row : ∀ j, i ≤ j → j < vs.length → OwnI wr w4.heap.size (slV (vth vs j)) (vth vs j).xs
  ms : OwnVs wr M V ms
theorem StR.later {w4 wr W : World} {M i : Nat} {vs ms : List (Sl Int)} {L V : Value} (h : StR w4 wr M vs ms L V i) (e : Ext wr W) : StR w4 W M vs ms L V i :=
  ⟨h.ext.trans e, OwnF.ext h.hd e, fun j h1 h2 => (h.row j h1 h2).ext e, h.ms.ext e⟩
theorem StR.next {w4 wr : World} {M i : Nat} {vs ms : List (Sl Int)} {L V : Value} (h : StR w4 wr M vs ms L V i) : StR w4 wr M vs ms L V (i + 1) :=
  ⟨h.ext, h.hd, fun j h1 h2 => h.row j (by omega) h2, h.ms⟩
theorem StR.write {w4 wr : World} {M i r k n c : Nat} {vs ms : List (Sl Int)} {L V : Value} {ys : List Int} (h : StR w4 wr M vs ms L V (i + 1)) (hi : i < vs.length) (hr : (vth vs i).a = some ⟨r, 0, none⟩) (ho : OwnI wr w4.heap.size (.slice (some ⟨r, 0, none⟩) n c) ys)
    (hap : ∀ j, i < j → j < vs.length → ∀ p, (vth vs j).a = some p → p.block ≠ r) (hlt : r < M) (v : Value) : StR w4 (wr.setCell ⟨r, k, none⟩ v) M vs ms L V (i + 1) := by
  have hx : ExtX r wr (wr.setCell ⟨r, k, none⟩ v) := (ExtX.refl r wr).set k v
  refine ⟨h.ext.set (own_lt ho).1 _, own_of_block h.hd fun b hb => ?_, fun j h1 h2 => own_of_block (h.row j h1 h2) fun b hb => ?_, own_of_block h.ms.1 fun b hb => ?_, h.ms.2.kept fun b h1 h2 => ?_⟩
  · exact hx.block b (h.hd.lt b hb).2 (fun e => own_types_ne h.hd ho (by decide) b r hb rfl e)
  · refine hx.block b ((h.row j h1 h2).lt b hb).2 fun e => ?_
    cases ha : (vth vs j).a with
    | none => simp only [slV, ha, Value.ownBlock] at hb; cases hb
    | some p =>
      simp only [slV, ha, Value.ownBlock, Option.some.injEq] at hb
      exact hap j (by omega) h2 p ha (hb.trans e)
  · exact hx.block b (h.ms.1.lt b hb).2 (by have := (h.ms.1.lt b hb).1; omega)
  · exact hx.block b h2 (by omega)
set_option maxRecDepth 100000 in
set_option maxHeartbeats 4000000 in
theorem st_long (P : Pw) (a : Option Addr) (ls : List Int) (c : Nat) (w : World) (hp : PlanAt w P) (hl : Ints w a ls) (hn : ls.length ≤ 10) (h1 : wideP P.fs P.fo = false) (h0 : planBad P = false) (hp2 : 2000 < prodTo P.fs P.fs.length) :
    Calls Tryz.prog 8 #[planV P, .slice a ls.length c] w (Ret (.bool true) w) := by
  have hb := planB_wide h1
  have hwp := fun W (e : Ext w W) => wideP_any P.fs P.fo P.fa P.ga P.fc P.gc W (hp.ext e).fo (fun i hi => by have := hb.pl i hi; omega)
  have hov := fun W (e : Ext w W) => own_wide P W (hp.ext e) h1
  have hrp := fun W (e : Ext w W) => rPlan_any P W (hp.ext e) hb
  have hrl := fun W (e : Ext w W) => rLevels_any P a ls c W (hp.ext e) hb.fl (hl.ext e) (by omega)
  have hra := fun W (e : Ext w W) (hx : levB P.fs ls = true) => rAllowed_any P a ls c W (by rw [levB_len hx]; exact FoOk.of (hp.ext e) hb h0) (hl.ext e)
  have hse : ∀ Q W, SameP P Q → PlanAt W Q → Calls Tryz.prog 22 #[planV Q] W (Ret (.tuple #[.slice none 0 0, .int .i64 5]) W) := fun Q W s hq => (settings_ok Q W hq (hb.same s) (by rw [← s.bad]; exact h0)).mono (by
    rintro e w' (⟨-, h⟩ | ⟨h, -⟩)
    · exact h
    · exfalso; rw [← s.fs] at h; omega)
  have hrs : ∀ W, Ext w W → Calls Tryz.prog 45 #[planV P] W (Ret (.tuple #[.slice none 0 0, .bool false]) W) := fun W e => (rSettings_any P W (hp.ext e) hb h0).mono (by
    rintro e w' (⟨-, h⟩ | ⟨h, -⟩)
    · exact h
    · exfalso; omega)
  have hal : ∀ Q W a' c', SameP P Q → PlanAt W Q → Ints W a' ls → Calls Tryz.prog 23 #[planV Q, .slice a' ls.length c'] W (Ret (.tuple #[.bool (levB P.fs ls && alwB P.fo ls), .int .i64 (if levB P.fs ls then 0 else 2)]) W) := fun Q W a' c' s hq hi => by
    have := Allowed_any Q a' ls c' W hq (hb.same s) hi (by omega)
    rwa [show AllowedV Q ls = .tuple #[.bool (levB P.fs ls && alwB P.fo ls), .int .i64 (if levB P.fs ls then 0 else 2)] by unfold AllowedV; rw [← s.bad, h0, ← s.fs, ← s.alw]; cases levB P.fs ls <;> rfl] at this
  have hcp : ∀ Q W, SameP P Q → PlanAt W Q → Calls Tryz.prog 42 #[planV Q] W (Ret (.int .i64 0) W) := fun Q W s hq => by
    have hbq := hb.same s
    have := checkPlan_any Q W hq (fun i hi => by have := hbq.pl i hi; omega) (by have := hbq.fl; omega) (by have := hbq.gl; omega)
    rwa [show planE Q = 0 by unfold planE; rw [← s.bad, h0]; rfl] at this
  rw [h1] at hwp
  rw [h0] at hrp
  have HF8 : Hid (P.fs.length ≤ 8) := (planOk h0).1
  obtain ⟨x, hx⟩ : ∃ x, x = levB P.fs ls := ⟨_, rfl⟩
  obtain ⟨q, hq⟩ : ∃ q, q = alwB P.fo ls := ⟨_, rfl⟩
  rw [← hx] at hrl hra
  rw [← hx, ← hq] at hal
  rw [← hq] at hra
  obtain ⟨P0, hP0⟩ : ∃ P0, P0 = P := ⟨_, rfl⟩
  rw [← hP0] at hse hal hcp HF8 
  have HRP0 := Lib.hid hP0
  obtain ⟨fs, fa, fc, fo, ga, gc⟩ := P
  simp only at hwp hra hrl hrp hov
  have HWP := Lib.hid hwp; have HOV := Lib.hid hov; have HRP := Lib.hid hrp; have HSE := Lib.hid hse; have HAL := Lib.hid hal; have HCP := Lib.hid hcp; have HRL := Lib.hid hrl; have HRA := Lib.hid hra; have HRS := Lib.hid hrs
  have HL := Lib.hid hl
  clear hwp hov hrp hse hal hcp hl hp h0 h1 hb hrl hra hrs hx hq hP0 hp2
  have hd : x = false ∨ (x = true ∧ q = false) ∨ (x = true ∧ q = true) := by cases x <;> cases q <;> simp
  rcases hd with rfl | ⟨rfl, rfl⟩ | ⟨rfl, rfl⟩ <;> (
  simp only [Bool.false_and, Bool.true_and, if_true, Bool.false_eq_true, if_false] at HAL HRA HRL
  go_enter Tryz.func8, Tryz.ntmps8
  go_wp2_with (fail)
  generalize hw1 : World.alloc _ _ = w1
  obtain ⟨he, o1, -⟩ := alloc1 hw1
  obtain ⟨b0, b1⟩ := obj_cells2 o1
  have E1 := Ext.refl w1
  have HE := Lib.hid he
  clear hw1 o1 he
  go_wp2_with (fail)
  (with_reducible refine (HWP.out _ HE.out).mono ?_); rintro e w2 ⟨rfl, he2⟩
  go_wp2_with (fail)
  (with_reducible refine (HOV.out _ (HE.out.trans he2)).mono ?_); rintro e w3 ⟨Q, rfl, he3, hq3, hsp⟩
  rw [← HRP0.out] at hsp
  have HSP := Lib.hid hsp; have HQ3 := Lib.hid hq3
  have HE3 := Lib.hid (he2.trans he3)
  clear hsp hq3 HWP HOV
  obtain ⟨qs, qa, qc, qo, pa, pc⟩ := Q
  have B0 := fun W (e : Ext w3 W) => b0 W (HE3.out.trans e)
  have B1 := fun W (e : Ext w3 W) => b1 W (HE3.out.trans e)
  clear b0 b1 E1 he2 he3
  go_upto_region 4 with fail
  generalize hw4 : World.alloc _ _ = w4
  obtain ⟨he4, o4, hs4⟩ := alloc1 hw4
  obtain ⟨q0, q1⟩ := obj_cells2 o4
  have C0 := fun W (e : Ext w4 W) => B0 W (he4.trans e)
  have C1 := fun W (e : Ext w4 W) => B1 W (he4.trans e)
  have HE4 := Lib.hid (HE.out.trans (HE3.out.trans he4))
  have HQ4 := Lib.hid (HQ3.out.ext he4)
  obtain ⟨bq, hbq⟩ : ∃ bq, bq = w3.heap.size := ⟨_, rfl⟩
  rw [← hbq] at q0 q1 ⊢
  have E4 := Ext.refl w4
  clear hw4 o4 hs4 he4 hbq B0 B1
  go_wp2_with (fail)
  (with_reducible refine (HSE.out ⟨qs, qa, qc, qo, pa, pc⟩ _ HSP.out HQ4.out).mono ?_); rintro e w5 ⟨rfl, he5⟩
  have HC0 : Hid (∀ W, Ext w5 W → W.cell? ⟨bq, 0, none⟩ = some (.slice qa qs.length qc)) := fun W e => q0 W (he5.trans e)
  have HC1 : Hid (∀ W, Ext w5 W → W.cell? ⟨bq, 1, none⟩ = some (.slice pa qo.length pc)) := fun W e => q1 W (he5.trans e)
  have HI : Hid (Ints w5 a ls ∧ ls.length ≤ 1000000) := ⟨HL.out.ext (HE4.out.trans he5), by omega⟩
  have HCALL := Lib.hid (fun W (e : Ext w5 W) a c (hi : Ints W a ls) => HAL.out ⟨qs, qa, qc, qo, pa, pc⟩ W a c HSP.out (HQ4.out.ext (he5.trans e)) hi)
  have HE5 := Lib.hid (HE4.out.trans he5); have HX5 := Lib.hid he5
  clear he5
  go_upto_region 5 with fail
  refine al_law HC0 HC1 HI HCALL _ (by rfl) rfl rfl ?_
  intro vs' w9 ls9 hl9 hJ9 e0 e1 e2 e3 e4 e5 e6 e7 e8 e9
  simp only [Act.put, List.setIfInBounds_toArray, List.set_cons_zero, List.set_cons_succ]
  rw [e0, e2, e4, e5, e6, e7, e8, e9]
  have he9 := hJ9.1
  have D0 := fun W (e : Ext w9 W) => C0 W ((HX5.out.trans he9).trans e)
  have D1 := fun W (e : Ext w9 W) => C1 W ((HX5.out.trans he9).trans e)
  have Q0 := fun W (e : Ext w9 W) => q0 W ((HX5.out.trans he9).trans e)
  have Q1 := fun W (e : Ext w9 W) => q1 W ((HX5.out.trans he9).trans e)
  have HE9 := Lib.hid (HE5.out.trans he9)
  have HX9 := Lib.hid (HX5.out.trans he9)
  have HY9 := Lib.hid he9
  have HQ9 := Lib.hid (HQ4.out.ext (HX5.out.trans he9))
  have E9 := Ext.refl w9
  clear hJ9 hl9 HCALL HC0 HC1 HI he9 C0 C1 q0 q1 E4 HX5
  generalize vs' 1 = v1
  generalize vs' 3 = v3
  go_wp2_with (fail)
  (with_reducible refine (HRP.out _ HE9.out).mono ?_); rintro e w10 ⟨rfl, he10⟩
  go_wp2_with (fail)
  (with_reducible refine (HCP.out ⟨qs, qa, qc, qo, pa, pc⟩ _ HSP.out (HQ9.out.ext he10)).mono ?_); rintro e w11 ⟨rfl, he11⟩
  have he911 : Ext w9 w11 := he10.trans he11
  clear he10 he11
  go_wp2_with (fail)
  (with_reducible refine (HRL.out _ (HE9.out.trans he911)).mono ?_); rintro e w12 ⟨rfl, he12⟩
  have he912 : Ext w9 w12 := he911.trans he12
  clear he911 he12
  go_wp2_with (fail)
  first
    | ((with_reducible refine (HRA.out _ (HE9.out.trans he912) (by first | trivial | rfl)).mono ?_); rintro e w13 ⟨rfl, he13⟩)
    | (obtain ⟨w13, rfl⟩ : ∃ w13 : World, w13 = w12 := ⟨_, rfl⟩; have he13 := Ext.refl w13)
  have he913 : Ext w9 w13 := he912.trans he13
  clear he912 he13
  try go_wp2_with (fail)
  (with_reducible refine (HRS.out _ (HE9.out.trans he913)).mono ?_); rintro e w14 ⟨rfl, he14⟩
  go_wp2_with (fail)
  (with_reducible refine (known_any _).mono ?_); rintro e w17 ⟨rfl, he17⟩
  go_wp2_with (fail)
  go_ret
  exact ⟨rfl, HE9.out.trans (he913.trans (he14.trans he17))⟩)
end Go.Proofs.YtplbofhgmflnlaaGreat
