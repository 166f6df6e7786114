/-
  Walks: the laws' own copy of a plan, its memory and its walk.
-/
import Derived.Test.YtplbofhgmflnlaaGreatOW2
import Derived.Test.YtplbofhgmflnlaaGreatPU
set_option linter.unusedVariables false
set_option linter.unusedSimpArgs false
namespace Go.Proofs.YtplbofhgmflnlaaGreat
open Go.RowKit
def quC (p : Value × Value) : List Value := [p.1, p.2]
theorem quC_len (p : Value × Value) : (quC p).length = 2 := rfl
abbrev rwQ (b : Nat) (F V : Value) : Rw := ⟨25, 2, .slice (some ⟨b, 0, none⟩) 1 1, 1, rowF quC [(F, V)]⟩
abbrev rwF (v : Value) (fs : List Fac) : Rw := ⟨52, 3, v, fs.length, rowF facC fs⟩
abbrev rwGq (v : Value) (gs : List (Sl Pr)) : Rw := ⟨125, 1, v, gs.length, rowF grpC gs⟩
abbrev rwPrs (g : Sl Pr) : Rw := ⟨127, 2, .slice g.a g.xs.length g.c, g.xs.length, rowF prC g.xs⟩
/-- The rows of an own plan in the block b: what its cells hold, and the list of groups that was made. -/
def plL (b : Nat) (F V U : Value) (fs : List Fac) (gs : List (Sl Pr)) : List Rw := rwQ b F V :: rwF F fs :: rwGq U gs :: gs.map rwPrs
theorem plL_grp (b : Nat) (F V U : Value) (fs : List Fac) (gs : List (Sl Pr)) (i : Nat) (hi : i < gs.length) : (plL b F V U fs gs)[i + 3]? = some (rwPrs (gth gs i)) := by
  simp [plL, gth_eq _ _ hi, hi]
theorem pl_plan {W : World} {B b : Nat} {V : Value} {P : Pw} (h : RowsAt W B (plL b (.slice P.fa P.fs.length P.fc) V (.slice P.ga P.fo.length P.gc) P.fs P.fo)) : PlanAt W P :=
  ⟨RowAt.own facC_len (h.get (i := 1) rfl), RowAt.own grpC_len (h.get (i := 2) rfl), fun i hi => RowAt.own prC_len (h.get (plL_grp _ _ _ _ _ _ i hi))⟩
theorem pl_cells {W : World} {B b : Nat} {F V U : Value} {fs : List Fac} {gs : List (Sl Pr)} (h : RowsAt W B (plL b F V U fs gs)) :
    W.cell? ⟨b, 0, none⟩ = some F ∧ W.cell? ⟨b, 1, none⟩ = some V ∧ W.frozen? ⟨b, 1, none⟩ = false ∧ B ≤ b := by
  have h0 : (rwQ b F V).at W B := h.get (i := 0) rfl
  have h0' : OwnF 25 2 quC W B (.slice (some ⟨b, 0, none⟩) 1 1) [(F, V)] := h0
  obtain ⟨g, hg, hB, -, hc⟩ := h0'.cell quC_len 0 (by simp)
  simp only [Option.some.injEq, Addr.mk.injEq, and_true] at hg
  subst hg
  have c0 := hc 0 (by omega)
  have c1 := hc 1 (by omega)
  exact ⟨by simpa [quC] using c0, by simpa [quC] using c1, h0'.frozenAt 1, hB⟩
theorem pl_set {W : World} {B b : Nat} {F V U : Value} {fs : List Fac} {gs : List (Sl Pr)} (h : RowsAt W B (plL b F V U fs gs)) (v : Value) : RowsAt (W.setCell ⟨b, 1, none⟩ v) B (plL b F v U fs gs) := by
  have h0 : OwnF 25 2 quC W B (.slice (some ⟨b, 0, none⟩) 1 1) [(F, V)] := h.get (i := 0) rfl
  have h1 := OwnF.setCell1 quC_len h0 0 (by simp) 1 (by omega) v (F, v) rfl
  exact h.written (i := 0) (r' := rwQ b F v) rfl ((ExtX.refl b W).set 1 v) rfl rfl h1
/-- An own plan at first. -/
theorem pl_init {w1 w2 : World} {F : Value} {fs : List Fac} (hv : OwnF 52 3 facC w2 w1.heap.size F fs) (he : Ext w1 w2) : RowsAt (w2.alloc (.cells #[F, .slice none 0 0] 25)) w1.heap.size (plL w2.heap.size F (.slice none 0 0) (.slice none 0 0) fs []) := by
  have h0 : RowsAt w1 w1.heap.size [rwGq (.slice none 0 0) []] := (RowsAt.nil w1 w1.heap.size).push (r := rwGq (.slice none 0 0) []) (OwnF.nil 125 1 grpC _ _) (fun k _ => rfl) (fun k hk => by cases hk)
  have h1 : RowsAt w2 w1.heap.size [rwF F fs, rwGq (.slice none 0 0) []] := h0.push (r := rwF F fs) hv (fun k hk => Below.block he k hk) (fun k hk => (hv.lt k hk).1)
  have hq : (w2.alloc (.cells #[F, .slice none 0 0] 25)).ownsRow w2.heap.size 25 2 (.slice (some ⟨w2.heap.size, 0, none⟩) 1 1) 1 [F, .slice none 0 0] := World.ownsRow_lit (size := 2) (e := 25) (base := w2.heap.size) w2 #[F, .slice none 0 0] 1 (Nat.le_refl _) (by unfold maxLen; omega) (by simp)
  exact h1.push (r := rwQ w2.heap.size F (.slice none 0 0)) (own_base hq he.size) (fun k hk => heap_old _ _ _ hk) (fun k hk => by simp only [Value.ownBlock, Option.some.injEq] at hk; omega)
theorem pl_app {wr W : World} {B b g c : Nat} {F V : Value} {a : Option Addr} {xs : List Pr} {fs : List Fac} {gs : List (Sl Pr)} (h : RowsAt wr B (plL b F V V fs gs)) (hB : B ≤ wr.heap.size) (he : Ext wr W)
    (ho : W.ownsRow wr.heap.size 127 2 (.slice a xs.length c) xs.length (rowF prC xs)) (hg : W.heap[g]? = some (.cells #[.slice a xs.length c] 125 (0, 0))) (hn : gs.length ≤ 100000) :
    ∃ v' w', (Builtin.append_ #[23, 23] 23 #[V, .slice (some ⟨g, 0, none⟩) 1 1]).run Tryz.prog W = .ok v' w' ∧ RowsAt w' B (plL b F V v' fs (gs ++ [⟨a, xs, c⟩])) ∧ ∀ w0, Ext w0 wr → w0.heap.size ≤ B → Ext w0 w' := by
  have hp : RowsAt W B (rwPrs ⟨a, xs, c⟩ :: plL b F V V fs gs) := h.push (r := rwPrs ⟨a, xs, c⟩) (own_base ho hB) (fun k hk => Below.block he k hk) (fun k hk => (ho.lt k hk).1)
  have hv : OwnF 125 1 grpC W B V gs := hp.get (i := 3) rfl
  obtain ⟨v', w', r1, r2, r3, r4⟩ := app_grpL W B 23 V gs [⟨a, xs, c⟩] ⟨g, 0, none⟩ 1 hv (grp_one (x := ⟨a, xs, c⟩) hg) (by simp; omega) (Nat.le_trans hB he.size)
  refine ⟨v', w', r1, ?_, fun w0 e0 hb => grown_ext (e0.trans he) r3 (fun k hk => Nat.le_trans hb (hv.lt k hk).1)⟩
  have r2' : (rwGq v' (gs ++ [(⟨a, xs, c⟩ : Sl Pr)])).at w' B := r2
  have h3 := hp.appended (i := 3) (r' := rwGq v' (gs ++ [⟨a, xs, c⟩])) rfl r3 r2' r4
  refine h3.perm ?_
  show (rwPrs (⟨a, xs, c⟩ : Sl Pr) :: rwQ b F V :: rwF F fs :: rwGq v' (gs ++ [(⟨a, xs, c⟩ : Sl Pr)]) :: gs.map rwPrs).Perm (rwQ b F V :: rwF F fs :: rwGq v' (gs ++ [(⟨a, xs, c⟩ : Sl Pr)]) :: (gs ++ [(⟨a, xs, c⟩ : Sl Pr)]).map rwPrs)
  rw [List.map_append]
  exact (List.perm_append_singleton (rwPrs (⟨a, xs, c⟩ : Sl Pr)) (rwQ b F V :: rwF F fs :: rwGq v' (gs ++ [(⟨a, xs, c⟩ : Sl Pr)]) :: gs.map rwPrs)).symm
theorem gth_app (gs : List (Sl Pr)) (x : Sl Pr) (i : Nat) (hi : i < gs.length) : gth (gs ++ [x]) i = gth gs i := by simp [gth, List.getElem?_append_left hi]
theorem gth_last (gs : List (Sl Pr)) (x : Sl Pr) : gth (gs ++ [x]) gs.length = x := by simp [gth]
set_option maxRecDepth 100000 in
set_option maxHeartbeats 4000000 in
theorem own_any (P : Pw) (w : World) (hp : PlanAt w P) (hf : P.fs.length ≤ 100000) (hg : P.fo.length ≤ 100000) (hl : ∀ i, i < P.fo.length → (gth P.fo i).xs.length ≤ 500000) :
    Calls Tryz.prog 40 #[planV P] w (fun e w' => ∃ Q, e = .returned (planV Q) ∧ Ext w w' ∧ PlanAt w' Q ∧ SameP P Q) := by
  obtain ⟨fs, fa, fc, fo, ga, gc⟩ := P
  simp only at hf hg hl
  have HP := Lib.hid hp; have HL := Lib.hid hl
  clear hp hl
  have hap : ∀ W, Ext w W → ∃ v' w', (Builtin.append_ #[22, 22] 22 #[.slice (some ⟨W.heap.size, 0, none⟩) 0 0, .slice fa fs.length fc]).run Tryz.prog (W.alloc (.cells #[] 52)) = .ok v' w' ∧ OwnF 52 3 facC w' W.heap.size v' fs ∧ Ext W w' ∧ ∃ a c, v' = .slice a fs.length c := fun W e => by
    have ho : OwnF 52 3 facC (W.alloc (.cells #[] 52)) W.heap.size (.slice (some ⟨W.heap.size, 0, none⟩) 0 0) [] := own_empty W 52 3
    obtain ⟨v', w', r1, r2, r3⟩ := app_fac (W.alloc (.cells #[] 52)) W.heap.size 22 (.slice (some ⟨W.heap.size, 0, none⟩) 0 0) [] fs fa fc ho (HP.out.fs.ext facC_len (e.alloc _)) (by simp; omega) (by rw [heap_size]; exact Nat.le_succ _)
    rw [List.nil_append] at r2
    obtain ⟨a, c, rfl⟩ := ownF_slice r2
    exact ⟨_, w', r1, r2, grown_ext (v := .slice (some ⟨W.heap.size, 0, none⟩) 0 0) ((Ext.refl W).alloc _) r3 (fun k hk => by simp only [Value.ownBlock, Option.some.injEq] at hk; omega), a, c, rfl⟩
  have HAPP := Lib.hid hap
  clear hap
  go_enter Tryz.func40, Tryz.ntmps40
  go_upto_region 1 with fail
  generalize hw1 : World.alloc _ _ = w1
  obtain ⟨he, o1, o2, -⟩ := alloc2 hw1
  obtain ⟨b0, b1⟩ := obj_cells2 o1
  obtain ⟨c0, c1⟩ := obj_cells2 o2
  have cfz := obj_free o2
  have HO2 := Lib.hid o2
  have HE := Lib.hid he
  have hsz : w1.heap.size = w.heap.size + 2 := by rw [← hw1]; simp [heap_size]
  have HSZ := Lib.hid hsz
  have E1 := Ext.refl w1
  clear hw1 o1 o2 he hsz
  go_wp2_with (at_builtin; refine wpList_app _ rfl _ _ 22 rfl _ (HAPP.out w1 HE.out) ?_; rintro v' w2 ⟨hv, he2, fa', fc', rfl⟩)
  have HR0 := Lib.hid (pl_init hv he2)
  have HX0 : Hid (Ext w1 (w2.alloc (.cells #[.slice fa' fs.length fc', .slice none 0 0] 25))) := he2.alloc _
  have HBQ : Hid (w1.heap.size ≤ w2.heap.size) := he2.size
  obtain ⟨bq, hbq⟩ : ∃ bq, bq = w2.heap.size := ⟨_, rfl⟩
  obtain ⟨pb, hpb⟩ : ∃ pb, pb = w.heap.size := ⟨_, rfl⟩
  obtain ⟨rb, hrb⟩ : ∃ rb, rb = w.heap.size + 1 := ⟨_, rfl⟩
  have HRB : Hid (rb < w1.heap.size ∧ w.heap.size ≤ rb) := by rw [Hid, HSZ.out, hrb]; omega
  obtain ⟨F, hF⟩ : ∃ F, F = Value.slice fa' fs.length fc' := ⟨_, rfl⟩
  rw [← hbq] at HR0 HBQ ⊢
  rw [← hrb] at c0 c1 cfz HO2 ⊢
  rw [← hpb] at b0 b1 ⊢
  have HF := Lib.hid hF
  rw [← hF] at HR0 HX0 ⊢
  clear hbq hv he2 E1 hpb hrb hF
  go_loopw [4] (fun i wr => ∃ (k : Nat) (U : Value) (gs : List (Sl Pr)), k ≤ fo.length ∧ i = .int .i64 k ∧ Hid (Ext w1 wr) ∧ Hid (RowsAt wr w1.heap.size (plL bq F U U fs gs) ∧ gs.length = k ∧ ∀ i, i < k → (gth fo i).xs = (gth gs i).xs)) (fun i _ => fo.length - (intOf i).toNat)
  case atStart => exact ⟨0, .slice none 0 0, [], Nat.zero_le _, rfl, HX0.out, HR0.out, rfl, fun i hi => by omega⟩
  case round =>
    obtain ⟨k, U, gs, hk, rfl, HX, HO⟩ := hrel
    have hr := HX.out
    have B1 := fun W (e : Ext wr W) => b1 W (hr.trans e)
    have Er := Ext.refl wr
    by_cases hlt : k < fo.length
    · obtain ⟨gb, go, rfl, g0⟩ := grp_at (HP.out.fo.ext grpC_len (HE.out.trans hr)) k hlt
      have HI : Hid (Prs wr (gth fo k).a (gth fo k).xs ∧ (gth fo k).xs.length ≤ 500000) := ⟨(HP.out.ps k hlt).ext prC_len (HE.out.trans hr), HL.out k hlt⟩
      have hk0 : (0 : Int) ≤ (k : Int) := by omega
      have hkn : (k : Int) < (fo.length : Int) := by omega
      obtain ⟨s, hse⟩ : ∃ s, s = gth fo k := ⟨_, rfl⟩
      rw [← hse] at g0 HI
      have HSE := Lib.hid hse
      obtain ⟨la, xs, lcc⟩ := s
      simp only at g0 HI
      obtain ⟨S, hS⟩ : ∃ S : World → Value → Prop, S = fun W v => Ext w1 W ∧ ∃ a c, RowsAt W w1.heap.size (plL bq F U v fs (gs ++ [⟨a, xs, c⟩])) := ⟨_, rfl⟩
      obtain ⟨R, hR⟩ : ∃ R : World → Value → Prop, R = fun W v => Ext w1 W ∧ ∃ a c, RowsAt W w1.heap.size (plL bq F v v fs (gs ++ [⟨a, xs, c⟩])) := ⟨_, rfl⟩
      have HCQ : Hid (∀ W, Ext wr W → W.cell? ⟨bq, 1, none⟩ = some U) := fun W e => (pl_cells (HO.out.1.ext e)).2.1
      have HCP : Hid (∀ W, Ext wr W → W.cell? ⟨pb, 1, none⟩ = some (.slice (some ⟨gb, go, none⟩) fo.length gc)) := fun W e => b1 W (hr.trans e)
      have HCG : Hid (∀ W, Ext wr W → W.cell? ⟨gb, go + k, none⟩ = some (.slice la xs.length lcc)) := g0
      have HAPQ : Hid (∀ W, Ext wr W → ∀ a c g, W.ownsRow wr.heap.size 127 2 (.slice a xs.length c) xs.length (rowF prC xs) → W.heap[g]? = some (.cells #[.slice a xs.length c] 125 (0, 0)) → ∃ v' w', (Builtin.append_ #[23, 23] 23 #[U, .slice (some ⟨g, 0, none⟩) 1 1]).run Tryz.prog W = .ok v' w' ∧ S w' v') := fun W e a c g ho hg => by
        obtain ⟨v', w', r1, r2, r3⟩ := pl_app HO.out.1 hr.size e ho hg (by rw [HO.out.2.1]; omega)
        refine ⟨v', w', r1, ?_⟩
        rw [hS]
        exact ⟨r3 w1 hr (Nat.le_refl _), a, c, r2⟩
      have HSV : Hid (∀ W v, S W v → (∃ u, W.cell? ⟨bq, 1, none⟩ = some u) ∧ W.frozen? ⟨bq, 1, none⟩ = false ∧ ∃ a n c, v = .slice a n c) := fun W v h => by
        rw [hS] at h
        obtain ⟨-, a, c, h⟩ := h
        obtain ⟨-, q1, q2, -⟩ := pl_cells h
        obtain ⟨a', c', e⟩ := ownF_slice (show OwnF 125 1 grpC W w1.heap.size v (gs ++ [⟨a, xs, c⟩]) from h.get (i := 2) rfl)
        exact ⟨⟨_, q1⟩, q2, a', _, c', e⟩
      have HST : Hid (∀ W v, S W v → R (W.setCell ⟨bq, 1, none⟩ v) v) := fun W v h => by
        rw [hS] at h
        obtain ⟨he, a, c, h⟩ := h
        rw [hR]
        exact ⟨he.set HBQ.out v, a, c, pl_set h v⟩
      have HRR := Lib.hid hR
      clear g0 hse hR hS hr
      go_upto_region 5 with fail
      refine pl_law hk0 hkn HCQ HCP HCG HI HAPQ HSV HST _ (by rfl) rfl rfl rfl ?_
      intro vs w9 ls9 hl9 hJ9 e0 e1 e2 e3 e4 e5 e6 e7 e8 e9 e10 e11
      simp only [Act.put, List.setIfInBounds_toArray, List.set_cons_zero, List.set_cons_succ]
      rw [e0, e1, e3, e4, e5, e6, e7, e11]
      have h12 := hJ9.e12 (hl9 12 (by omega))
      rw [HRR.out] at h12
      obtain ⟨hx9, a9, c9, ho9⟩ := h12
      have HX9 := Lib.hid hx9; have HO9 := Lib.hid ho9
      have HEQ : Hid ((gs ++ [(⟨a9, xs, c9⟩ : Sl Pr)]).length = k + 1 ∧ ∀ i, i < k + 1 → (gth fo i).xs = (gth (gs ++ [(⟨a9, xs, c9⟩ : Sl Pr)]) i).xs) := by
        refine ⟨by simp [HO.out.2.1], fun i hi => ?_⟩
        by_cases hik : i < k
        · rw [gth_app _ _ _ (by rw [HO.out.2.1]; exact hik)]
          exact HO.out.2.2 i hik
        · obtain rfl : i = gs.length := by rw [HO.out.2.1]; omega
          rw [gth_last, HO.out.2.1, ← HSE.out]
      clear hJ9 hl9 HAPQ HRR HSV HST hx9 ho9
      generalize vs 10 = v10 at HO9 ⊢
      generalize vs 2 = v2
      generalize vs 8 = v8
      generalize vs 9 = v9
      go_wp2_with (fail)
      go_roundw
      case rel => exact ⟨k + 1, v10, _, by omega, by go_num, HX9.out, HO9.out, HEQ.out⟩
      case measure => simp [intOf]; omega
    · obtain rfl : k = fo.length := by omega
      obtain ⟨ua, uc, rfl⟩ := ownF_slice (show OwnF 125 1 grpC wr w1.heap.size U gs from HO.out.1.get (i := 2) rfl)
      have C0 := fun W (e : Ext wr W) => c0 W (hr.trans e)
      have C1 := fun W (e : Ext wr W) => c1 W (hr.trans e)
      have FZ0 := fun W (e : Ext wr W) => cfz W (hr.trans e) 0
      have FZ1 := fun W (e : Ext wr W) => cfz W (hr.trans e) 1
      have Q0 : ∀ W, Ext wr W → W.cell? ⟨bq, 0, none⟩ = some (.slice fa' fs.length fc') := fun W e => by rw [(pl_cells (HO.out.1.ext e)).1, HF.out]
      have Q1 : ∀ W, Ext wr W → W.cell? ⟨bq, 1, none⟩ = some (.slice ua gs.length uc) := fun W e => (pl_cells (HO.out.1.ext e)).2.1
      clear c0 c1 cfz b0 hr
      go_wp2_with (fail)
      generalize hwe : World.setCell (World.setCell wr _ _) _ _ = we
      have hxx : ExtX rb wr we := by rw [← hwe]; exact ((ExtX.refl rb wr).set 0 _).set 1 _
      have hee : Ext w we := by rw [← hwe]; exact ((HE.out.trans HX.out).set HRB.out.2 _).set HRB.out.2 _
      have hbl : we.heap[rb]? = some (.cells #[.slice fa' fs.length fc', .slice ua gs.length uc] 25 (0, 0)) := by
        have h1 := HX.out.block HO2.out
        have h2 := block_set (block_set h1 0 (.slice fa' fs.length fc')) 1 (.slice ua gs.length uc)
        rw [← hwe]
        exact h2
      obtain ⟨r0, r1⟩ := obj_cells2 hbl
      have E9 := Ext.refl we
      have hro := HO.out.1.same (w' := we) fun k hk1 hk2 => hxx.block k hk2 (by have := HRB.out.1; omega)
      rw [HF.out] at hro
      have hpl : PlanAt we ⟨fs, fa', fc', gs, ua, uc⟩ := pl_plan hro
      refine bodyPost_ret (v := .agg #[.slice fa' fs.length fc', .slice ua gs.length uc]) (by simp [results, Tryz.results40, go_sem, r0 _ E9, r1 _ E9]) rfl ⟨⟨fs, fa', fc', gs, ua, uc⟩, rfl, hee, hpl, rfl, HO.out.2.1.symm, HO.out.2.2⟩
end Go.Proofs.YtplbofhgmflnlaaGreat
