import Derived.Test.YtjpgignbjkgjiaaR6
import Derived.Deep.DeepCutAuto
set_option linter.unusedVariables false
set_option linter.unusedSimpArgs false
namespace Go.Proofs.Ytjpgignbjkgjiaa
open Go.RowKit
theorem grown_ext0 {w w1 w' : World} {g : Nat} (he : Ext w w1) (hg : w1.grownBy w' (some g)) (hb : w.heap.size ≤ g) : Ext w w' := Below.grown he hg he.size fun k hk => by cases hk; exact hb
theorem heap_get (w : World) (o : Obj) (k : Nat) : (w.alloc o).heap[k]? = if k = w.heap.size then some o else w.heap[k]? := by
  show (w.heap.push o)[k]? = _
  rw [Array.getElem?_push]
theorem heap_dr (w : World) : w.drew.heap = w.heap := rfl
theorem own_far {W w' : World} {B g g' n c : Nat} {xs : List Int} (h : OwnI W B (.slice (some ⟨g, 0, none⟩) n c) xs) (hg : W.grownBy w' (some g')) (hne : g ≠ g') : OwnI w' B (.slice (some ⟨g, 0, none⟩) n c) xs := by
  obtain ⟨h1, h2⟩ := h
  refine ⟨h1, ?_⟩
  rcases h2 with ⟨h2, h3⟩ | ⟨g1, cap, cur, hv, hb, hh, r⟩
  · cases h2
  · have : g1 = g := by simp only [Value.slice.injEq, Option.some.injEq, Addr.mk.injEq] at hv; exact hv.1.1.symm
    subst this
    refine .inr ⟨g1, cap, cur, hv, hb, ?_, r⟩
    rw [hg.block g1 (lt_of_block hh) (by simpa using hne)]; exact hh
theorem own_set {W : World} {B g m o n c : Nat} {xs : List Int} (h : OwnI W B (.slice (some ⟨g, 0, none⟩) n c) xs) (v : Value) (hne : g ≠ m) : OwnI (W.setCell ⟨m, o, none⟩ v) B (.slice (some ⟨g, 0, none⟩) n c) xs := by
  obtain ⟨h1, h2⟩ := h
  refine ⟨h1, ?_⟩
  rcases h2 with ⟨h2, h3⟩ | ⟨g1, cap, cur, hv, hb, hh, r⟩
  · cases h2
  · have : g1 = g := by simp only [Value.slice.injEq, Option.some.injEq, Addr.mk.injEq] at hv; exact hv.1.1.symm
    subst this
    refine .inr ⟨g1, cap, cur, hv, hb, ?_, r⟩
    rw [heap_set_ne v hne]; exact hh
/-- What 'own' has laid. -/
def RelOwn (ha : Hal) (w wx : World) : Prop :=
  ∃ g6 c6 g10 c10 : Nat, wx.heap[w.heap.size]? = some (.cells #[.int .i64 ha.ro, .int .i64 ha.cl, .slice (some ⟨g6, 0, none⟩) ha.st.length c6, .slice (some ⟨g10, 0, none⟩) ha.en.length c10] 24 (0, 0)) ∧
    wx.heap[w.heap.size + 1]? = some (.cells #[.int .i64 0, .int .i64 0, .slice none 0 0, .slice none 0 0] 24 (0, 0)) ∧ Ext w wx ∧ g6 ≠ g10 ∧ w.heap.size + 2 ≤ g6 ∧ w.heap.size + 2 ≤ g10 ∧
    OwnI wx (w.heap.size + 2) (.slice (some ⟨g6, 0, none⟩) ha.st.length c6) ha.st ∧ OwnI wx (w.heap.size + 2) (.slice (some ⟨g10, 0, none⟩) ha.en.length c10) ha.en
theorem own_fin {ha : Hal} {w w1 w10 : World} {v2 v3 : Value} {g6 c6 g10 c10 : Nat} (he : Ext w w1) (o1 : w1.heap[w.heap.size]? = some (.cells #[.int .i64 ha.ro, .int .i64 ha.cl, v2, v3] 24 (0, 0)))
    (o2 : w1.heap[w.heap.size + 1]? = some (.cells #[.int .i64 0, .int .i64 0, .slice none 0 0, .slice none 0 0] 24 (0, 0))) (he10 : Ext w1 w10) (h6 : OwnI w10 (w.heap.size + 2) (.slice (some ⟨g6, 0, none⟩) ha.st.length c6) ha.st)
    (h10 : OwnI w10 (w.heap.size + 2) (.slice (some ⟨g10, 0, none⟩) ha.en.length c10) ha.en) (hb6 : w.heap.size + 2 ≤ g6) (hb10 : w.heap.size + 2 ≤ g10) (hne : g6 ≠ g10) :
    RelOwn ha w ((w10.setCell ⟨w.heap.size, 2, none⟩ (.slice (some ⟨g6, 0, none⟩) ha.st.length c6)).setCell ⟨w.heap.size, 3, none⟩ (.slice (some ⟨g10, 0, none⟩) ha.en.length c10)) := by
  refine ⟨g6, c6, g10, c10, ?_, ?_, ?_, hne, hb6, hb10, own_set (own_set h6 _ (by omega)) _ (by omega), own_set (own_set h10 _ (by omega)) _ (by omega)⟩
  · exact block_set (block_set (he10.block o1) 2 _) 3 _
  · rw [heap_set_ne _ (by omega), heap_set_ne _ (by omega)]; exact he10.block o2
  · exact ((he.trans he10).set (Nat.le_refl _) _).set (Nat.le_refl _) _
/-- The post of 'own': the same hall, its lists in blocks of their own. -/
def RetOwn (ha : Hal) (w : World) (e : Ending) (w' : World) : Prop :=
  ∃ g6 c6 g10 c10 : Nat, e = .returned (hval ha ⟨some ⟨g6, 0, none⟩, c6, some ⟨g10, 0, none⟩, c10⟩) ∧ Ext w w' ∧ g6 ≠ g10 ∧ w.heap.size ≤ g6 ∧ w.heap.size ≤ g10 ∧
    OwnI w' w.heap.size (.slice (some ⟨g6, 0, none⟩) ha.st.length c6) ha.st ∧ OwnI w' w.heap.size (.slice (some ⟨g10, 0, none⟩) ha.en.length c10) ha.en
set_option maxRecDepth 100000 in
set_option maxHeartbeats 16000000 in
theorem own_any (ha : Hal) (x : HP) (w : World) (hh : HallAt w ha x) (hs : ha.st.length ≤ 1000) (hen : ha.en.length ≤ 1000) :
    Calls Try.prog 15 #[hval ha x] w (RetOwn ha w) := by
  obtain ⟨sa, sc, ea, ec⟩ := x
  have HH := Lib.hid hh; clear hh
  go_enter Try.func15, Try.ntmps15
  go_upto_region 1 with fail
  generalize hw1 : World.alloc _ _ = w1
  obtain ⟨he, o1, o2, hz⟩ := alloc2 hw1
  obtain ⟨b0, b1, b2, b3⟩ := obj_cells4 o1
  have rf := obj_free o1
  clear hw1
  have HO1 := Lib.hid o1
  have HO2 := Lib.hid o2
  clear o1 o2
  have hr0 := Ext.refl w1
  have HST := Lib.hid (HH.out.st.ext he)
  have HEN := Lib.hid (HH.out.en.ext he)
  go_cut [3] (fun s3 wx => RelOwn ha w wx)
  case first =>
    go_region_law (first
      | ((refine step_app (by rfl) (.tmp 3) (.tmp 5) 22 (by rfl) _ _ (by rfl) (by rfl) _ (app_ints0 _ _ (w.heap.size + 2) _ ha.st sa sc (by simp only [heap_get, heap_dr, heap_size, hz]; simp) (by omega) (HST.out.ext (by repeat (first | exact hr0 | apply Ext.alloc | apply Ext.drew))) (by omega)) ?_; rintro v6 w6 ⟨⟨g6, c6, rfl, hq6⟩, ho6, hg6⟩; have he6 := grown_ext0 (w := w1) (by repeat (first | exact hr0 | apply Ext.alloc | apply Ext.drew)) hg6 (by omega); simp only [heap_size, heap_dr, hz] at hq6; have hlt6 := (ho6.lt g6 rfl).2))
      | ((refine step_app (by rfl) (.tmp 7) (.tmp 9) 22 (by rfl) _ _ (by rfl) (by rfl) _ (app_ints0 _ _ (w.heap.size + 2) _ ha.en ea ec (by first | (simp only [heap_get, heap_dr, heap_size, hz]; simp; done) | (refine (hg6.block _ ?_ ?_).trans ?_ <;> first | (simp; done) | (simp only [heap_dr, heap_size, hz]; omega) | (simp only [heap_get, heap_dr, heap_size, hz]; simp; done))) (by have := he6.size; first | omega | (simp only [heap_dr, heap_size, hz]; omega)) (HEN.out.ext (by repeat (first | exact he6 | apply Ext.alloc | apply Ext.drew))) (by omega)) ?_; rintro v10 w10 ⟨⟨g10, c10, rfl, hq10⟩, ho10, hg10⟩; have he10 := grown_ext0 (w := w1) (by repeat (first | exact he6 | apply Ext.alloc | apply Ext.drew)) hg10 (by have := he6.size; omega); have ho66 := own_far (ho6.ext (by repeat (first | exact Ext.refl _ | apply Ext.alloc | apply Ext.drew))) hg10 (by omega); try simp only [heap_size, heap_dr, hz] at hq10)))
    all_goals
      go_wp2_with fail
      go_meet
      exact own_fin he HO1.out HO2.out he10 ho66 ho10 (by omega) (by omega) (by omega)
  case rest =>
    obtain ⟨g6, c6, g10, c10, q1, q2, hx, hne, hb6, hb10, ho6, ho10⟩ := hcut
    clear b0 b1 b2 b3 rf hr0
    obtain ⟨b0, b1, b2, b3⟩ := obj_cells4 q1
    have rf := obj_free q2
    obtain ⟨z0, z1, z2, z3⟩ := obj_cells4 q2
    have hrc := Ext.refl wc
    have HO6 := Lib.hid ho6
    have HO10 := Lib.hid ho10
    have HX := Lib.hid hx
    clear ho6 ho10 q1 q2 hx hz
    go_wp2_with fail
    refine bodyPost_ret (v := hval ha ⟨some ⟨g6, 0, none⟩, c6, some ⟨g10, 0, none⟩, c10⟩) (by simp [results, Try.results15, go_sem, z0 _ hrc, z1 _ hrc, z2 _ hrc, z3 _ hrc]) rfl ⟨g6, c6, g10, c10, rfl, ?_, hne, by omega, by omega, ?_, ?_⟩
    · exact ((((HX.out).set (by simp) _).set (by simp) _).set (by simp) _).set (by simp) _
    · exact own_down (own_set (own_set (own_set (own_set HO6.out _ (by omega)) _ (by omega)) _ (by omega)) _ (by omega)) (by omega)
    · exact own_down (own_set (own_set (own_set (own_set HO10.out _ (by omega)) _ (by omega)) _ (by omega)) _ (by omega)) (by omega)
end Go.Proofs.Ytjpgignbjkgjiaa
