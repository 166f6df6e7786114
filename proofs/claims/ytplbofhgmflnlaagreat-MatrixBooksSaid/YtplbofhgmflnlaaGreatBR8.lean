/-
  Walk: the reference's Take.
-/
import Derived.Test.YtplbofhgmflnlaaGreatBR7
import Derived.Test.YtplbofhgmflnlaaGreatBS3
set_option linter.unusedVariables false
set_option linter.unusedSimpArgs false
namespace Go.Proofs.YtplbofhgmflnlaaGreat
open Go.RowKit
/-- A place off this block. -/
def OffA (g : Nat) (a : Option Addr) : Prop := ∀ ad, a = some ad → ad.block ≠ g
/-- A reference's book off this block. -/
structure OffB (g : Nat) (x : Rb) : Prop where
  ba : OffA g x.ba
  oa : OffA g x.oa
  sa : OffA g x.sa
  ra : OffA g x.ra
theorem offA_own {e sz : Nat} {w : World} {B n c m g : Nat} {a : Option Addr} {xs : List Value} (h : w.ownsRow B e sz (.slice a n c) m xs) (hg : g < B ∨ w.heap.size ≤ g) : OffA g a := by
  rintro ⟨b, i, s⟩ rfl hb
  have := h.lt b rfl
  simp only at hb
  omega
theorem RowAt.extX {α : Type} {sz X : Nat} {f : α → List Value} (hf : ∀ x, (f x).length = sz) {w w' : World} {a : Option Addr} {xs : List α} (h : RowAt sz f w a xs) (e : ExtX X w w') (hX : OffA X a) : RowAt sz f w' a xs :=
  RowAt.upd (F := [X]) hf h ⟨e.os, e.tape, e.output, e.size, fun k hk hF => e.block k hk (fun q => hF (by simp [q]))⟩ (fun ad q hF => hX ad q (by simpa using hF))
theorem Ints.extX {w w' : World} {X : Nat} {a : Option Addr} {xs : List Int} (h : Ints w a xs) (e : ExtX X w w') (hX : OffA X a) : Ints w' a xs := by
  rcases h with h | ⟨b, o, h1, h2⟩
  · exact .inl h
  · exact .inr ⟨b, o, h1, fun i hi => e.cell (h2 i hi) (fun q => hX _ h1 q)⟩
theorem RbAt.extX {w w' : World} {X : Nat} {x : Rb} {pts : List Pt} {ord : List Int} (h : RbAt w x pts ord) (e : ExtX X w w') (hX : OffB X x) : RbAt w' x pts ord :=
  ⟨RowAt.extX blC_len h.bl e hX.ba, h.ord.extX e hX.oa, RowAt.extX stC_len h.st e hX.sa, RowAt.extX rsC_len h.rs e hX.ra⟩
theorem res4 {w w1 wz we : World} {rb : Nat} {a0 a1 a2 a3 v0 v1 v2 v3 : Value} (o2 : w1.heap[rb]? = some (.cells #[a0, a1, a2, a3] 102 (0, 0))) (he : Ext w1 wz) (hw : Ext w wz) (hb : w.heap.size ≤ rb)
    (h : ((((wz.setCell ⟨rb, 0, none⟩ v0).setCell ⟨rb, 1, none⟩ v1).setCell ⟨rb, 2, none⟩ v2).setCell ⟨rb, 3, none⟩ v3) = we) : Ext w we ∧ we.heap[rb]? = some (.cells #[v0, v1, v2, v3] 102 (0, 0)) := by
  subst h
  exact ⟨(((hw.set hb _).set hb _).set hb _).set hb _, block_set (block_set (block_set (block_set (he.block o2) 0 v0) 1 v1) 2 v2) 3 v3⟩
set_option maxRecDepth 100000 in
set_option maxHeartbeats 4000000 in
theorem rTake_no (x : Rb) (pts : List Pt) (ord : List Int) (z : Int) (w : World) (hz : z < 0 ∨ (pts.length : Int) ≤ z) (hn : pts.length ≤ 500000) :
    Calls Tryz.prog 55 #[rbV x pts.length ord.length, .int .i64 z] w (Ret (.tuple #[rbV x pts.length ord.length, .int .i64 3]) w) := by
  obtain ⟨ba, bc, oa, oc, sa, sc, ra, rc⟩ := x
  have hd : z < 0 ∨ (¬ z < 0 ∧ (pts.length : Int) ≤ z) := by omega
  clear hz
  rcases hd with hz | ⟨hz, hz2⟩ <;> (
  go_enter Tryz.func55, Tryz.ntmps55
  go_upto_region 1 with fail
  generalize hw1 : World.alloc _ _ = w1
  obtain ⟨he, o1, o2, -⟩ := alloc2 hw1
  obtain ⟨b0, b1, b2, b3⟩ := obj_cells4 o1
  obtain ⟨c0, c1, c2, c3⟩ := obj_cells4 o2
  have cf := obj_free o2
  have f0 := fun W (e : Ext w1 W) => cf W e 0
  have f1 := fun W (e : Ext w1 W) => cf W e 1
  have f2 := fun W (e : Ext w1 W) => cf W e 2
  have f3 := fun W (e : Ext w1 W) => cf W e 3
  have E1 := Ext.refl w1
  have HE := Lib.hid he
  have HO2 := Lib.hid o2
  clear hw1 o1 o2 he cf
  go_wp2_with (fail)
  generalize hwe : World.setCell (World.setCell (World.setCell (World.setCell w1 _ _) _ _) _ _) _ _ = we
  obtain ⟨hee, hbe⟩ := res4 HO2.out E1 HE.out (Nat.le_succ _) hwe
  obtain ⟨r0, r1, r2, r3⟩ := obj_cells4 hbe
  have E9 := Ext.refl we
  refine bodyPost_ret (v := .tuple #[.agg #[.slice ba pts.length bc, .slice oa ord.length oc, .slice sa pts.length sc, .slice ra pts.length rc], .int .i64 3]) (by simp [results, Tryz.results55, go_sem, r0 _ E9, r1 _ E9, r2 _ E9, r3 _ E9]) rfl ⟨rfl, hee⟩)
set_option maxRecDepth 100000 in
set_option maxHeartbeats 4000000 in
theorem rTake_any (x : Rb) (pts : List Pt) (ord : List Int) (k at' : Nat) (w : World) (h : RbAt w x pts ord) (hb : InB pts.length ord) (hn : ord.length ≤ 1000000) (hm : pts.length ≤ 500000) (hk : k < pts.length) (ha : at' < ord.length) (hat : nth ord at' = (k : Int)) (hf : ∀ j, j < at' → nth ord j ≠ (k : Int)) (hp : (qth pts k).place = (at' : Int)) :
    Calls Tryz.prog 55 #[rbV x pts.length ord.length, .int .i64 (k : Int)] w (fun e w' => ∃ y : Rb, e = .returned (.tuple #[rbV y pts.length ord.length, .int .i64 (takeE pts ord k)]) ∧ Ext w w' ∧ (∀ g, g < w.heap.size → OffB g x → OffB g y) ∧ RbAt w' y (if takeE pts ord k = 0 then pts.set k { qth pts k with st := 1, rs := ⟨#[]⟩ } else pts) ord) := by
  have hbe := fun W (e : Ext w W) => rBeside_any x pts ord k at' false 0 W (h.ext e) hb hn (by omega) hk ha hat hf
  have hwi := fun W (e : Ext w W) => rWith_any x pts ord k { qth pts k with st := 1, rs := ⟨#[]⟩ } W (h.ext e) hk hm
  have hte : takeE pts ord k = if (qth pts k).st != 0 then 6 else if (ord.take at').any (someP pts (qth pts k).blk 0) then 61 else 0 := by unfold takeE; rw [hp]; rfl
  simp only [Bool.false_eq_true, if_false] at hbe
  obtain ⟨q, hq⟩ : ∃ q, q = (ord.take at').any (someP pts (qth pts k).blk 0) := ⟨_, rfl⟩
  rw [← hq] at hbe hte
  obtain ⟨E, hE⟩ : ∃ E, E = takeE pts ord k := ⟨_, rfl⟩
  rw [← hE] at hte ⊢
  obtain ⟨PT, hPT⟩ : ∃ PT, PT = (if E = 0 then pts.set k { qth pts k with st := 1, rs := ⟨#[]⟩ } else pts) := ⟨_, rfl⟩
  rw [← hPT]
  have HPT := Lib.hid hPT
  clear hPT
  have H := Lib.hid h
  have HK : Hid (k < pts.length) := hk
  obtain ⟨ba, bc, oa, oc, sa, sc, ra, rc⟩ := x
  try simp only at hbe
  try simp only at hwi
  have HBE := Lib.hid hbe; have HWI := Lib.hid hwi; have HTE := Lib.hid hte
  obtain ⟨sb, so, rfl, d0⟩ := st_at h.st k hk
  obtain ⟨s, hs⟩ : ∃ s, s = (qth pts k).st := ⟨_, rfl⟩
  rw [← hs] at d0 HTE
  have hk0 : (0 : Int) ≤ (k : Int) := by omega
  have hkn : (k : Int) < (pts.length : Int) := by omega
  clear hbe hwi hte h hb ha hat hf hp hq hE hs hk
  have hd : (¬ s = 0) ∨ (s = 0 ∧ q = true) ∨ (s = 0 ∧ q = false) := by
    by_cases h : s = 0
    · cases q <;> simp [h]
    · exact .inl h
  rcases hd with hs0 | ⟨rfl, rfl⟩ | ⟨rfl, rfl⟩
  · have hsf : (s != 0) = true := by rw [bne_iff_ne]; exact hs0
    have HEE : Hid (E = 6) := by rw [Hid, HTE.out, if_pos hsf]
    go_enter Tryz.func55, Tryz.ntmps55
    go_upto_region 1 with fail
    generalize hw1 : World.alloc _ _ = w1
    obtain ⟨he, o1, o2, -⟩ := alloc2 hw1
    obtain ⟨b0, b1, b2, b3⟩ := obj_cells4 o1
    obtain ⟨c0, c1, c2, c3⟩ := obj_cells4 o2
    have cf := obj_free o2
    have f0 := fun W (e : Ext w1 W) => cf W e 0
    have f1 := fun W (e : Ext w1 W) => cf W e 1
    have f2 := fun W (e : Ext w1 W) => cf W e 2
    have f3 := fun W (e : Ext w1 W) => cf W e 3
    have D0 := fun W (e : Ext w1 W) => d0 W (he.trans e)
    have E1 := Ext.refl w1
    have HE := Lib.hid he
    have HO2 := Lib.hid o2
    clear hw1 o1 o2 he cf d0
    go_wp2_with (fail)
    generalize hwe : World.setCell (World.setCell (World.setCell (World.setCell w1 _ _) _ _) _ _) _ _ = we
    obtain ⟨hee, hbe⟩ := res4 HO2.out E1 (HE.out.trans E1) (Nat.le_succ _) hwe
    obtain ⟨r0, r1, r2, r3⟩ := obj_cells4 hbe
    have E9 := Ext.refl we
    refine bodyPost_ret (v := .tuple #[.agg #[.slice ba pts.length bc, .slice oa ord.length oc, .slice (some ⟨sb, so, none⟩) pts.length sc, .slice ra pts.length rc], .int .i64 6]) (by simp [results, Tryz.results55, go_sem, r0 _ E9, r1 _ E9, r2 _ E9, r3 _ E9]) rfl ⟨⟨ba, bc, oa, oc, some ⟨sb, so, none⟩, sc, ra, rc⟩, by rw [HEE.out], hee, fun g hg hx => hx, ?_⟩
    rw [HPT.out, HEE.out, if_neg (by decide)]
    exact H.out.ext hee
  · have HEE : Hid (E = 61) := by rw [Hid, HTE.out]; rfl
    go_enter Tryz.func55, Tryz.ntmps55
    go_upto_region 1 with fail
    generalize hw1 : World.alloc _ _ = w1
    obtain ⟨he, o1, o2, -⟩ := alloc2 hw1
    obtain ⟨b0, b1, b2, b3⟩ := obj_cells4 o1
    obtain ⟨c0, c1, c2, c3⟩ := obj_cells4 o2
    have cf := obj_free o2
    have f0 := fun W (e : Ext w1 W) => cf W e 0
    have f1 := fun W (e : Ext w1 W) => cf W e 1
    have f2 := fun W (e : Ext w1 W) => cf W e 2
    have f3 := fun W (e : Ext w1 W) => cf W e 3
    have D0 := fun W (e : Ext w1 W) => d0 W (he.trans e)
    have E1 := Ext.refl w1
    have HE := Lib.hid he
    have HO2 := Lib.hid o2
    clear hw1 o1 o2 he cf d0
    go_wp2_with (fail)
    (with_reducible refine (HBE.out _ HE.out).mono ?_); rintro e w2 ⟨rfl, he2⟩
    go_wp2_with (fail)
    generalize hwe : World.setCell (World.setCell (World.setCell (World.setCell w2 _ _) _ _) _ _) _ _ = we
    obtain ⟨hee, hbe⟩ := res4 HO2.out he2 (HE.out.trans he2) (Nat.le_succ _) hwe
    obtain ⟨r0, r1, r2, r3⟩ := obj_cells4 hbe
    have E9 := Ext.refl we
    refine bodyPost_ret (v := .tuple #[.agg #[.slice ba pts.length bc, .slice oa ord.length oc, .slice (some ⟨sb, so, none⟩) pts.length sc, .slice ra pts.length rc], .int .i64 61]) (by simp [results, Tryz.results55, go_sem, r0 _ E9, r1 _ E9, r2 _ E9, r3 _ E9]) rfl ⟨⟨ba, bc, oa, oc, some ⟨sb, so, none⟩, sc, ra, rc⟩, by rw [HEE.out], hee, fun g hg hx => hx, ?_⟩
    rw [HPT.out, HEE.out, if_neg (by decide)]
    exact H.out.ext hee
  · have HEE : Hid (E = 0) := by rw [Hid, HTE.out]; rfl
    go_enter Tryz.func55, Tryz.ntmps55
    go_upto_region 1 with fail
    generalize hw1 : World.alloc _ _ = w1
    obtain ⟨he, o1, o2, -⟩ := alloc2 hw1
    obtain ⟨b0, b1, b2, b3⟩ := obj_cells4 o1
    obtain ⟨c0, c1, c2, c3⟩ := obj_cells4 o2
    have cf := obj_free o2
    have f0 := fun W (e : Ext w1 W) => cf W e 0
    have f1 := fun W (e : Ext w1 W) => cf W e 1
    have f2 := fun W (e : Ext w1 W) => cf W e 2
    have f3 := fun W (e : Ext w1 W) => cf W e 3
    have D0 := fun W (e : Ext w1 W) => d0 W (he.trans e)
    have E1 := Ext.refl w1
    have HE := Lib.hid he
    have HO2 := Lib.hid o2
    clear hw1 o1 o2 he cf d0
    go_wp2_with (fail)
    (with_reducible refine (HBE.out _ HE.out).mono ?_); rintro e w2 ⟨rfl, he2⟩
    have HSZ : Hid (w.heap.size + 1 < w2.heap.size) := by have h1 := lt_of_block HO2.out; have h2 := he2.size; exact Nat.lt_of_lt_of_le h1 h2
    go_wp2_with (fail)
    (with_reducible refine (HWI.out _ (HE.out.trans he2)).mono ?_); rintro e wq ⟨ya, yc, za, zc, rfl, heq, hy1, hy2⟩
    have HY1 := Lib.hid hy1; have HY2 := Lib.hid hy2
    have hxq : Ext w1 wq := he2.trans heq
    clear he2 heq hy1 hy2
    go_wp2_with (fail)
    generalize hwe : World.setCell (World.setCell (World.setCell (World.setCell wq _ _) _ _) _ _) _ _ = we
    obtain ⟨hee, hbe⟩ := res4 HO2.out hxq (HE.out.trans hxq) (Nat.le_succ _) hwe
    obtain ⟨r0, r1, r2, r3⟩ := obj_cells4 hbe
    have E9 := Ext.refl we
    have hxx : ExtX (w.heap.size + 1) wq we := by rw [← hwe]; exact ((((ExtX.refl _ wq).set 0 _).set 1 _).set 2 _).set 3 _
    have hy1 := HY1.out
    have hy2 := HY2.out
    have hse := own_of_block hy1 fun j hj => hxx.block j (hy1.lt j hj).2 (by have := (hy1.lt j hj).1; have := HSZ.out; omega)
    have hre := own_of_block hy2 fun j hj => hxx.block j (hy2.lt j hj).2 (by have := (hy2.lt j hj).1; have := HSZ.out; omega)
    refine bodyPost_ret (v := .tuple #[.agg #[.slice ba pts.length bc, .slice oa ord.length oc, .slice ya pts.length yc, .slice za pts.length zc], .int .i64 0]) (by simp [results, Tryz.results55, go_sem, r0 _ E9, r1 _ E9, r2 _ E9, r3 _ E9]) rfl ⟨⟨ba, bc, oa, oc, ya, yc, za, zc⟩, by rw [HEE.out], hee, fun g hg hx => ⟨hx.ba, hx.oa, offA_own hy1 (.inl (by have := HSZ.out; omega)), offA_own hy2 (.inl (by have := HSZ.out; omega))⟩, ?_⟩
    rw [HPT.out, HEE.out, if_pos rfl]
    exact ⟨RowAt.ext blC_len (bl_set H.out.bl HK.out rfl) hee, H.out.ord.ext hee, RowAt.own stC_len hse, RowAt.own rsC_len hre⟩
end Go.Proofs.YtplbofhgmflnlaaGreat
