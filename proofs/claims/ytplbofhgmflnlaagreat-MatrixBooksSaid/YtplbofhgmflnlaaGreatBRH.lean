/-
  Walks: MatrixBooks where the log is too wide, or its plan refused.
-/
import Derived.Test.YtplbofhgmflnlaaGreatBRG
import Derived.Test.YtplbofhgmflnlaaGreatON1
import Derived.Test.YtplbofhgmflnlaaGreatRF3
import Derived.Test.YtplbofhgmflnlaaGreatST0
import Derived.Test.YtplbofhgmflnlaaGreatKD3
set_option linter.unusedVariables false
set_option linter.unusedSimpArgs false
namespace Go.Proofs.YtplbofhgmflnlaaGreat
open Go.RowKit Go.Maps
set_option maxRecDepth 100000 in
set_option maxHeartbeats 4000000 in
theorem bk_wide (P : Pw) (a : Option Addr) (ss : List Se) (sc : Nat) (sd : Int) (oa : Option Addr) (m oc : Nat) (w : World) (hp : PlanAt w P) (hgl : ∀ i, i < P.fo.length → (gth P.fo i).xs.length ≤ 9223372036854775807) (hs : SetsAt w a ss) (hl : ∀ i, i < ss.length → (eth ss i).lv.xs.length ≤ 9223372036854775807)
    (h : (wideP P.fs P.fo || wideS ss || decide (40 < m)) = true) :
    Calls Tryz.prog 11 #[logV P a ss.length sc sd oa m oc] w (Ret (.bool true) w) := by
  have hwl := fun W (e : Ext w W) => wideLog_any P a ss sc sd oa m oc W (hp.ext e) hgl (hs.ext e) hl
  rw [h] at hwl
  obtain ⟨fs, fa, fc, fo, ga, gc⟩ := P
  have HWL := Lib.hid hwl
  obtain ⟨n, hn⟩ : ∃ n, n = ss.length := ⟨_, rfl⟩
  rw [← hn] at HWL ⊢
  clear hwl hp hs hgl hl hn h
  go_enter Tryz.func11, Tryz.ntmps11
  go_wp2_with (fail)
  generalize hw1 : World.alloc _ _ = w1
  obtain ⟨he, o1, -⟩ := alloc1 hw1
  obtain ⟨b0, b1, b2, b3, b4⟩ := obj_cells5 o1
  have E1 := Ext.refl w1
  have HE := Lib.hid he
  clear hw1 o1 he
  go_wp2_with (first
    | (go_at_call 51; (with_reducible refine (HWL.out _ HE.out).mono ?_); rintro e w2 ⟨rfl, he2⟩)
    | (go_at_call 17; (with_reducible refine (known_any _).mono ?_); rintro e w3 ⟨rfl, he3⟩))
  go_ret
  exact ⟨rfl, HE.out.trans (he2.trans he3)⟩
set_option maxRecDepth 100000 in
set_option maxHeartbeats 4000000 in
theorem bk_err (P : Pw) (a : Option Addr) (ss : List Se) (sc : Nat) (sd : Int) (oa : Option Addr) (m oc : Nat) (w : World) (hp : PlanAt w P) (hs : SetsAt w a ss) (hn : ss.length ≤ 9223372036854775807) (hl : ∀ i, i < ss.length → (eth ss i).lv.xs.length ≤ 9223372036854775807)
    (h : (wideP P.fs P.fo || wideS ss || decide (40 < m)) = false) (h0 : checkE P ss ≠ 0) :
    Calls Tryz.prog 11 #[logV P a ss.length sc sd oa m oc] w (Ret (.bool true) w) := by
  have hw3 := h
  simp only [Bool.or_eq_false_iff] at hw3
  obtain ⟨⟨h1, h2⟩, -⟩ := hw3
  have hb := planB_wide h1
  obtain ⟨hn5, -, hl10⟩ := wideS_no h2
  have hwl := fun W (e : Ext w W) => wideLog_any P a ss sc sd oa m oc W (hp.ext e) (fun i hi => by have := hb.pl i hi; omega) (hs.ext e) hl
  have hov := fun W (e : Ext w W) => own_wide P W (hp.ext e) h1
  have hos : ∀ W, Ext w W → Calls Tryz.prog 46 #[.slice a ss.length sc] W (fun e w' => ∃ a' c' tt, e = .returned (.slice a' ss.length c') ∧ Ext W w' ∧ SetsAt w' a' tt ∧ SameSe ss tt) := fun W e => (ownSets_any a ss sc W (hs.ext e) (by omega) (fun i hi => by have := hl10 i hi; omega)).mono (by
    rintro e w' ⟨a', c', tt, rfl, he, ho, hq⟩
    exact ⟨a', c', tt, rfl, he, OwnSs.sets ho, hq⟩)
  have hva := fun W (e : Ext w W) => rValid_any P a ss sc W (hp.ext e) hb (hs.ext e) hn hl
  obtain ⟨v, hv⟩ : ∃ v, v = checkE P ss := ⟨_, rfl⟩
  have hbk : ∀ W, Ext w W → ∀ Q ta tc tt, PlanAt W Q → SameP P Q → SetsAt W ta tt → SameSe ss tt → Calls Tryz.prog 52 #[planV Q, .slice ta ss.length tc, .int .u64 sd] W (fun e w' => ∃ x, e = .returned (.tuple #[x, .int .i64 v]) ∧ Ext W w' ∧ x = .pointer none) := fun W e Q ta tc tt hq s ht s2 => by
    have := newBook_no Q ta tt tc sd W hq (hb.same s) ht (by rw [← s2.1]; exact hn) (fun i hi => by rw [← (s2.all i).1]; exact hl i (by rw [s2.1]; exact hi)) v (by rw [hv]; exact (check_same s s2).symm) (by rw [hv]; exact h0)
    rw [← s2.1] at this
    refine this.mono ?_
    rintro e w' ⟨rfl, he⟩
    exact ⟨_, rfl, he, rfl⟩
  rw [← hv] at hva h0
  rw [h] at hwl
  have hv0 : (v != 0) = true := by simpa using h0
  obtain ⟨n, hnn⟩ : ∃ n, n = ss.length := ⟨_, rfl⟩
  rw [← hnn] at hwl hos hbk hva ⊢
  obtain ⟨fs, fa, fc, fo, ga, gc⟩ := P
  have HWL := Lib.hid hwl; have HOV := Lib.hid hov; have HOS := Lib.hid hos; have HVA := Lib.hid hva; have HBK := Lib.hid hbk
  clear hwl hov hos hva hbk hp hs hb hn hl hl10 h h1 h2 h0 hv hnn hn5
  go_enter Tryz.func11, Tryz.ntmps11
  go_wp2_with (fail)
  generalize hw1 : World.alloc _ _ = w1
  obtain ⟨he, o1, -⟩ := alloc1 hw1
  obtain ⟨b0, b1, b2, b3, b4⟩ := obj_cells5 o1
  have E1 := Ext.refl w1
  have HE := Lib.hid he
  clear hw1 o1 he
  go_upto_region 3 with (go_at_call 51; (with_reducible refine (HWL.out _ HE.out).mono ?_); rintro e w2 ⟨rfl, he2⟩)
  have HC0 : Hid (∀ W, Ext w2 W → W.cell? ⟨w.heap.size, 0, none⟩ = some (.slice fa fs.length fc)) := fun W e => b0 W (he2.trans e)
  have HC1 : Hid (∀ W, Ext w2 W → W.cell? ⟨w.heap.size, 1, none⟩ = some (.slice ga fo.length gc)) := fun W e => b1 W (he2.trans e)
  have HC2 : Hid (∀ W, Ext w2 W → W.cell? ⟨w.heap.size, 2, none⟩ = some (.slice a n sc)) := fun W e => b2 W (he2.trans e)
  have HC3 : Hid (∀ W, Ext w2 W → W.cell? ⟨w.heap.size, 3, none⟩ = some (.int .u64 sd)) := fun W e => b3 W (he2.trans e)
  have HEW : Hid (Ext w w2) := HE.out.trans he2
  have HOV2 : Hid (∀ W, Ext w2 W → Calls Tryz.prog 40 #[planV ⟨fs, fa, fc, fo, ga, gc⟩] W (fun e w' => ∃ Q, e = .returned (planV Q) ∧ Ext W w' ∧ PlanAt w' Q ∧ SameP ⟨fs, fa, fc, fo, ga, gc⟩ Q)) := fun W e => HOV.out W (HEW.out.trans e)
  have HOS2 : Hid (∀ W, Ext w2 W → Calls Tryz.prog 46 #[.slice a n sc] W (fun e w' => ∃ a' c' tt, e = .returned (.slice a' n c') ∧ Ext W w' ∧ SetsAt w' a' tt ∧ SameSe ss tt)) := fun W e => HOS.out W (HEW.out.trans e)
  have HBK2 : Hid (∀ W, Ext w2 W → ∀ Q ta tc tt, PlanAt W Q → SameP ⟨fs, fa, fc, fo, ga, gc⟩ Q → SetsAt W ta tt → SameSe ss tt → Calls Tryz.prog 52 #[planV Q, .slice ta n tc, .int .u64 sd] W (fun e w' => ∃ x, e = .returned (.tuple #[x, .int .i64 v]) ∧ Ext W w' ∧ x = .pointer none)) := fun W e => HBK.out W (HEW.out.trans e)
  have HRM : Hid (∀ (W W' : World) (x : Value), Ext W W' → x = .pointer none → x = .pointer none) := fun _ _ _ _ h => h
  refine b3_law (P := ⟨fs, fa, fc, fo, ga, gc⟩) (R := fun _ x => x = .pointer none) HC0 HC1 HC2 HC3 HOV2 HOS2 HBK2 HRM _ (by rfl) rfl ?_
  intro vs w9 ls9 hl9 hJ9 e0 e1 e2 e3 e4 e5 e6 e7 e8 e9 e10 e11 e12 e13
  simp only [Act.put, List.setIfInBounds_toArray, List.set_cons_zero, List.set_cons_succ]
  have e12 := hJ9.fin (hl9 12 (by omega))
  have he29 := hJ9.ext
  rw [e0, e1, e3, e4, e6, e7, e11, e12, e13]
  have HE9 : Hid (Ext w w9) := HEW.out.trans he29
  have he19 : Ext w1 w9 := he2.trans he29
  have d0 := fun W (e : Ext w9 W) => b0 W (he19.trans e)
  have d1 := fun W (e : Ext w9 W) => b1 W (he19.trans e)
  have d2 := fun W (e : Ext w9 W) => b2 W (he19.trans e)
  have E9 := Ext.refl w9
  clear hJ9 hl9 e0 e1 e2 e3 e4 e5 e6 e7 e8 e9 e10 e11 e12 e13 HOV HOS HBK HOV2 HOS2 HBK2 HC0 HC1 HC2 HC3 HWL HRM b0 b1 b2 b3 b4 he19 he29 he2
  generalize vs 2 = u2
  generalize vs 5 = u5
  generalize vs 8 = u8
  generalize vs 9 = u9
  generalize vs 10 = u10
  go_wp2_with (first
    | (go_at_call 48; (with_reducible refine (HVA.out _ HE9.out).mono ?_); rintro e w10 ⟨rfl, he10⟩)
    | (go_at_call 17; (with_reducible refine (known_any _).mono ?_); rintro e w11 ⟨rfl, he11⟩))
  go_ret
  exact ⟨rfl, HE9.out.trans (he10.trans he11)⟩
end Go.Proofs.YtplbofhgmflnlaaGreat
