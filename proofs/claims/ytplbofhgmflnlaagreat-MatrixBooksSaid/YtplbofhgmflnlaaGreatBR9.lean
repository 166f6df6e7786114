/-
  Walks: the reference's Reopen and Declare.
-/
import Derived.Test.YtplbofhgmflnlaaGreatBR8
set_option linter.unusedVariables false
set_option linter.unusedSimpArgs false
namespace Go.Proofs.YtplbofhgmflnlaaGreat
open Go.RowKit
set_option maxRecDepth 100000 in
set_option maxHeartbeats 4000000 in
theorem rReopen_no (x : Rb) (pts : List Pt) (ord : List Int) (z : Int) (w : World) (hz : z < 0 ∨ (pts.length : Int) ≤ z) (hn : pts.length ≤ 500000) :
    Calls Tryz.prog 59 #[rbV x pts.length ord.length, .int .i64 z] w (Ret (.tuple #[rbV x pts.length ord.length, .int .i64 3]) w) := by
  obtain ⟨ba, bc, oa, oc, sa, sc, ra, rc⟩ := x
  have hd : z < 0 ∨ (¬ z < 0 ∧ (pts.length : Int) ≤ z) := by omega
  clear hz
  rcases hd with hz | ⟨hz, hz2⟩ <;> (
  go_enter Tryz.func59, Tryz.ntmps59
  go_upto_region 1 with fail
  generalize hw1 : World.alloc _ _ = w1
  obtain ⟨he, o1, o2, -⟩ := alloc2 hw1
  obtain ⟨b0, b1, b2, b3⟩ := obj_cells4 o1
  obtain ⟨c0, c1, c2, c3⟩ := obj_cells4 o2
  have cf := obj_free o2
  have f0 := fun W (e : Ext w1 W) => cf W e 0
  have f1 := fun W (e : Ext w1 W) => cf W e 1
  have f2 := fun W (e : Ext w1 W) => cf W e 2
  have f3 := fun W (e : Ext w1 W) => cf W e 3
  have E1 := Ext.refl w1
  have HE := Lib.hid he
  have HO2 := Lib.hid o2
  clear hw1 o1 o2 he cf
  go_wp2_with (fail)
  generalize hwe : World.setCell (World.setCell (World.setCell (World.setCell w1 _ _) _ _) _ _) _ _ = we
  obtain ⟨hee, hbe⟩ := res4 HO2.out E1 HE.out (Nat.le_succ _) hwe
  obtain ⟨r0, r1, r2, r3⟩ := obj_cells4 hbe
  have E9 := Ext.refl we
  refine bodyPost_ret (v := .tuple #[.agg #[.slice ba pts.length bc, .slice oa ord.length oc, .slice sa pts.length sc, .slice ra pts.length rc], .int .i64 3]) (by simp [results, Tryz.results59, go_sem, r0 _ E9, r1 _ E9, r2 _ E9, r3 _ E9]) rfl ⟨rfl, hee⟩)
set_option maxRecDepth 100000 in
set_option maxHeartbeats 4000000 in
theorem rReopen_any (x : Rb) (pts : List Pt) (ord : List Int) (k at' : Nat) (w : World) (h : RbAt w x pts ord) (hb : InB pts.length ord) (hn : ord.length ≤ 1000000) (hm : pts.length ≤ 500000) (hk : k < pts.length) (ha : at' < ord.length) (hat : nth ord at' = (k : Int)) (hf : ∀ j, j < at' → nth ord j ≠ (k : Int)) (hp : (qth pts k).place = (at' : Int)) :
    Calls Tryz.prog 59 #[rbV x pts.length ord.length, .int .i64 (k : Int)] w (fun e w' => ∃ y : Rb, e = .returned (.tuple #[rbV y pts.length ord.length, .int .i64 (reopE pts ord k)]) ∧ Ext w w' ∧ (∀ g, g < w.heap.size → OffB g x → OffB g y) ∧ RbAt w' y (if reopE pts ord k = 0 then pts.set k { qth pts k with st := 0, rs := ⟨#[]⟩ } else pts) ord) := by
  have hbe := fun W (e : Ext w W) => rBeside_any x pts ord k at' true 1 W (h.ext e) hb hn (by omega) hk ha hat hf
  have hwi := fun W (e : Ext w W) => rWith_any x pts ord k { qth pts k with st := 0, rs := ⟨#[]⟩ } W (h.ext e) hk hm
  have hte : reopE pts ord k = if (qth pts k).st != 2 then 7 else if (ord.drop (at' + 1)).any (someP pts (qth pts k).blk 1) then 9 else 0 := by unfold reopE; rw [hp]; rfl
  simp only [if_true] at hbe
  obtain ⟨q, hq⟩ : ∃ q, q = (ord.drop (at' + 1)).any (someP pts (qth pts k).blk 1) := ⟨_, rfl⟩
  rw [← hq] at hbe hte
  obtain ⟨E, hE⟩ : ∃ E, E = reopE pts ord k := ⟨_, rfl⟩
  rw [← hE] at hte ⊢
  obtain ⟨PT, hPT⟩ : ∃ PT, PT = (if E = 0 then pts.set k { qth pts k with st := 0, rs := ⟨#[]⟩ } else pts) := ⟨_, rfl⟩
  rw [← hPT]
  have HPT := Lib.hid hPT
  clear hPT
  have H := Lib.hid h
  have HK : Hid (k < pts.length) := hk
  obtain ⟨ba, bc, oa, oc, sa, sc, ra, rc⟩ := x
  try simp only at hbe
  try simp only at hwi
  have HBE := Lib.hid hbe; have HWI := Lib.hid hwi; have HTE := Lib.hid hte
  obtain ⟨sb, so, rfl, d0⟩ := st_at h.st k hk
  obtain ⟨s, hs⟩ : ∃ s, s = (qth pts k).st := ⟨_, rfl⟩
  rw [← hs] at d0 HTE
  have hk0 : (0 : Int) ≤ (k : Int) := by omega
  have hkn : (k : Int) < (pts.length : Int) := by omega
  clear hbe hwi hte h hb ha hat hf hp hq hE hs hk
  have hd : (¬ s = 2) ∨ (s = 2 ∧ q = true) ∨ (s = 2 ∧ q = false) := by
    by_cases h : s = 2
    · cases q <;> simp [h]
    · exact .inl h
  rcases hd with hs0 | ⟨rfl, rfl⟩ | ⟨rfl, rfl⟩
  · have hsf : (s != 2) = true := by rw [bne_iff_ne]; exact hs0
    have HEE : Hid (E = 7) := by rw [Hid, HTE.out, if_pos hsf]
    go_enter Tryz.func59, Tryz.ntmps59
    go_upto_region 1 with fail
    generalize hw1 : World.alloc _ _ = w1
    obtain ⟨he, o1, o2, -⟩ := alloc2 hw1
    obtain ⟨b0, b1, b2, b3⟩ := obj_cells4 o1
    obtain ⟨c0, c1, c2, c3⟩ := obj_cells4 o2
    have cf := obj_free o2
    have f0 := fun W (e : Ext w1 W) => cf W e 0
    have f1 := fun W (e : Ext w1 W) => cf W e 1
    have f2 := fun W (e : Ext w1 W) => cf W e 2
    have f3 := fun W (e : Ext w1 W) => cf W e 3
    have D0 := fun W (e : Ext w1 W) => d0 W (he.trans e)
    have E1 := Ext.refl w1
    have HE := Lib.hid he
    have HO2 := Lib.hid o2
    clear hw1 o1 o2 he cf d0
    go_wp2_with (fail)
    generalize hwe : World.setCell (World.setCell (World.setCell (World.setCell w1 _ _) _ _) _ _) _ _ = we
    obtain ⟨hee, hbe⟩ := res4 HO2.out E1 (HE.out.trans E1) (Nat.le_succ _) hwe
    obtain ⟨r0, r1, r2, r3⟩ := obj_cells4 hbe
    have E9 := Ext.refl we
    refine bodyPost_ret (v := .tuple #[.agg #[.slice ba pts.length bc, .slice oa ord.length oc, .slice (some ⟨sb, so, none⟩) pts.length sc, .slice ra pts.length rc], .int .i64 7]) (by simp [results, Tryz.results59, go_sem, r0 _ E9, r1 _ E9, r2 _ E9, r3 _ E9]) rfl ⟨⟨ba, bc, oa, oc, some ⟨sb, so, none⟩, sc, ra, rc⟩, by rw [HEE.out], hee, fun g hg hx => hx, ?_⟩
    rw [HPT.out, HEE.out, if_neg (by decide)]
    exact H.out.ext hee
  · have HEE : Hid (E = 9) := by rw [Hid, HTE.out]; rfl
    go_enter Tryz.func59, Tryz.ntmps59
    go_upto_region 1 with fail
    generalize hw1 : World.alloc _ _ = w1
    obtain ⟨he, o1, o2, -⟩ := alloc2 hw1
    obtain ⟨b0, b1, b2, b3⟩ := obj_cells4 o1
    obtain ⟨c0, c1, c2, c3⟩ := obj_cells4 o2
    have cf := obj_free o2
    have f0 := fun W (e : Ext w1 W) => cf W e 0
    have f1 := fun W (e : Ext w1 W) => cf W e 1
    have f2 := fun W (e : Ext w1 W) => cf W e 2
    have f3 := fun W (e : Ext w1 W) => cf W e 3
    have D0 := fun W (e : Ext w1 W) => d0 W (he.trans e)
    have E1 := Ext.refl w1
    have HE := Lib.hid he
    have HO2 := Lib.hid o2
    clear hw1 o1 o2 he cf d0
    go_wp2_with (fail)
    (with_reducible refine (HBE.out _ HE.out).mono ?_); rintro e w2 ⟨rfl, he2⟩
    go_wp2_with (fail)
    generalize hwe : World.setCell (World.setCell (World.setCell (World.setCell w2 _ _) _ _) _ _) _ _ = we
    obtain ⟨hee, hbe⟩ := res4 HO2.out he2 (HE.out.trans he2) (Nat.le_succ _) hwe
    obtain ⟨r0, r1, r2, r3⟩ := obj_cells4 hbe
    have E9 := Ext.refl we
    refine bodyPost_ret (v := .tuple #[.agg #[.slice ba pts.length bc, .slice oa ord.length oc, .slice (some ⟨sb, so, none⟩) pts.length sc, .slice ra pts.length rc], .int .i64 9]) (by simp [results, Tryz.results59, go_sem, r0 _ E9, r1 _ E9, r2 _ E9, r3 _ E9]) rfl ⟨⟨ba, bc, oa, oc, some ⟨sb, so, none⟩, sc, ra, rc⟩, by rw [HEE.out], hee, fun g hg hx => hx, ?_⟩
    rw [HPT.out, HEE.out, if_neg (by decide)]
    exact H.out.ext hee
  · have HEE : Hid (E = 0) := by rw [Hid, HTE.out]; rfl
    go_enter Tryz.func59, Tryz.ntmps59
    go_upto_region 1 with fail
    generalize hw1 : World.alloc _ _ = w1
    obtain ⟨he, o1, o2, -⟩ := alloc2 hw1
    obtain ⟨b0, b1, b2, b3⟩ := obj_cells4 o1
    obtain ⟨c0, c1, c2, c3⟩ := obj_cells4 o2
    have cf := obj_free o2
    have f0 := fun W (e : Ext w1 W) => cf W e 0
    have f1 := fun W (e : Ext w1 W) => cf W e 1
    have f2 := fun W (e : Ext w1 W) => cf W e 2
    have f3 := fun W (e : Ext w1 W) => cf W e 3
    have D0 := fun W (e : Ext w1 W) => d0 W (he.trans e)
    have E1 := Ext.refl w1
    have HE := Lib.hid he
    have HO2 := Lib.hid o2
    clear hw1 o1 o2 he cf d0
    go_wp2_with (fail)
    (with_reducible refine (HBE.out _ HE.out).mono ?_); rintro e w2 ⟨rfl, he2⟩
    have HSZ : Hid (w.heap.size + 1 < w2.heap.size) := by have h1 := lt_of_block HO2.out; have h2 := he2.size; exact Nat.lt_of_lt_of_le h1 h2
    go_wp2_with (fail)
    (with_reducible refine (HWI.out _ (HE.out.trans he2)).mono ?_); rintro e wq ⟨ya, yc, za, zc, rfl, heq, hy1, hy2⟩
    have HY1 := Lib.hid hy1; have HY2 := Lib.hid hy2
    have hxq : Ext w1 wq := he2.trans heq
    clear he2 heq hy1 hy2
    go_wp2_with (fail)
    generalize hwe : World.setCell (World.setCell (World.setCell (World.setCell wq _ _) _ _) _ _) _ _ = we
    obtain ⟨hee, hbe⟩ := res4 HO2.out hxq (HE.out.trans hxq) (Nat.le_succ _) hwe
    obtain ⟨r0, r1, r2, r3⟩ := obj_cells4 hbe
    have E9 := Ext.refl we
    have hxx : ExtX (w.heap.size + 1) wq we := by rw [← hwe]; exact ((((ExtX.refl _ wq).set 0 _).set 1 _).set 2 _).set 3 _
    have hy1 := HY1.out
    have hy2 := HY2.out
    have hse := own_of_block hy1 fun j hj => hxx.block j (hy1.lt j hj).2 (by have := (hy1.lt j hj).1; have := HSZ.out; omega)
    have hre := own_of_block hy2 fun j hj => hxx.block j (hy2.lt j hj).2 (by have := (hy2.lt j hj).1; have := HSZ.out; omega)
    refine bodyPost_ret (v := .tuple #[.agg #[.slice ba pts.length bc, .slice oa ord.length oc, .slice ya pts.length yc, .slice za pts.length zc], .int .i64 0]) (by simp [results, Tryz.results59, go_sem, r0 _ E9, r1 _ E9, r2 _ E9, r3 _ E9]) rfl ⟨⟨ba, bc, oa, oc, ya, yc, za, zc⟩, by rw [HEE.out], hee, fun g hg hx => ⟨hx.ba, hx.oa, offA_own hy1 (.inl (by have := HSZ.out; omega)), offA_own hy2 (.inl (by have := HSZ.out; omega))⟩, ?_⟩
    rw [HPT.out, HEE.out, if_pos rfl]
    exact ⟨RowAt.ext blC_len (bl_set H.out.bl HK.out rfl) hee, H.out.ord.ext hee, RowAt.own stC_len hse, RowAt.own rsC_len hre⟩
set_option maxRecDepth 100000 in
set_option maxHeartbeats 4000000 in
theorem rDeclare_no (x : Rb) (pts : List Pt) (ord : List Int) (z : Int) (r : ByteArray) (w : World) (hz : z < 0 ∨ (pts.length : Int) ≤ z) (hn : pts.length ≤ 500000) :
    Calls Tryz.prog 57 #[rbV x pts.length ord.length, .int .i64 z, .string r] w (Ret (.tuple #[rbV x pts.length ord.length, .int .i64 3]) w) := by
  obtain ⟨ba, bc, oa, oc, sa, sc, ra, rc⟩ := x
  have hd : z < 0 ∨ (¬ z < 0 ∧ (pts.length : Int) ≤ z) := by omega
  clear hz
  rcases hd with hz | ⟨hz, hz2⟩ <;> (
  go_enter Tryz.func57, Tryz.ntmps57
  go_upto_region 1 with fail
  generalize hw1 : World.alloc _ _ = w1
  obtain ⟨he, o1, o2, -⟩ := alloc2 hw1
  obtain ⟨b0, b1, b2, b3⟩ := obj_cells4 o1
  obtain ⟨c0, c1, c2, c3⟩ := obj_cells4 o2
  have cf := obj_free o2
  have f0 := fun W (e : Ext w1 W) => cf W e 0
  have f1 := fun W (e : Ext w1 W) => cf W e 1
  have f2 := fun W (e : Ext w1 W) => cf W e 2
  have f3 := fun W (e : Ext w1 W) => cf W e 3
  have E1 := Ext.refl w1
  have HE := Lib.hid he
  have HO2 := Lib.hid o2
  clear hw1 o1 o2 he cf
  go_wp2_with (fail)
  generalize hwe : World.setCell (World.setCell (World.setCell (World.setCell w1 _ _) _ _) _ _) _ _ = we
  obtain ⟨hee, hbe⟩ := res4 HO2.out E1 HE.out (Nat.le_succ _) hwe
  obtain ⟨r0, r1, r2, r3⟩ := obj_cells4 hbe
  have E9 := Ext.refl we
  refine bodyPost_ret (v := .tuple #[.agg #[.slice ba pts.length bc, .slice oa ord.length oc, .slice sa pts.length sc, .slice ra pts.length rc], .int .i64 3]) (by simp [results, Tryz.results57, go_sem, r0 _ E9, r1 _ E9, r2 _ E9, r3 _ E9]) rfl ⟨rfl, hee⟩)
set_option maxRecDepth 100000 in
set_option maxHeartbeats 4000000 in
theorem rDeclare_any (x : Rb) (pts : List Pt) (ord : List Int) (k : Nat) (r : ByteArray) (w : World) (h : RbAt w x pts ord) (hm : pts.length ≤ 500000) (hk : k < pts.length) (hr : r.size ≤ maxLen) :
    Calls Tryz.prog 57 #[rbV x pts.length ord.length, .int .i64 (k : Int), .string r] w (fun e w' => ∃ y : Rb, e = .returned (.tuple #[rbV y pts.length ord.length, .int .i64 (declE pts k r)]) ∧ Ext w w' ∧ (∀ g, g < w.heap.size → OffB g x → OffB g y) ∧ RbAt w' y (if declE pts k r = 0 then pts.set k { qth pts k with st := 2, rs := r } else pts) ord) := by
  have hbe := fun W => rName_any r W hr
  have hwi := fun W (e : Ext w W) => rWith_any x pts ord k { qth pts k with st := 2, rs := r } W (h.ext e) hk hm
  have hte : declE pts k r = if !nameB r then 4 else if (qth pts k).st != 0 then 6 else 0 := rfl
  obtain ⟨q, hq⟩ : ∃ q, q = nameB r := ⟨_, rfl⟩
  rw [← hq] at hbe hte
  obtain ⟨E, hE⟩ : ∃ E, E = declE pts k r := ⟨_, rfl⟩
  rw [← hE] at hte ⊢
  obtain ⟨PT, hPT⟩ : ∃ PT, PT = (if E = 0 then pts.set k { qth pts k with st := 2, rs := r } else pts) := ⟨_, rfl⟩
  rw [← hPT]
  have HPT := Lib.hid hPT
  clear hPT
  have H := Lib.hid h
  have HK : Hid (k < pts.length) := hk
  obtain ⟨ba, bc, oa, oc, sa, sc, ra, rc⟩ := x
  try simp only at hwi
  have HBE := Lib.hid hbe; have HWI := Lib.hid hwi; have HTE := Lib.hid hte
  obtain ⟨sb, so, rfl, d0⟩ := st_at h.st k hk
  obtain ⟨s, hs⟩ : ∃ s, s = (qth pts k).st := ⟨_, rfl⟩
  rw [← hs] at d0 HTE
  have hk0 : (0 : Int) ≤ (k : Int) := by omega
  have hkn : (k : Int) < (pts.length : Int) := by omega
  clear hbe hwi hte h hq hE hs hk hr
  have hd : q = false ∨ (q = true ∧ ¬ s = 0) ∨ (q = true ∧ s = 0) := by
    by_cases h : s = 0
    · cases q <;> simp [h]
    · cases q <;> simp [h]
  rcases hd with rfl | ⟨rfl, hs0⟩ | ⟨rfl, rfl⟩
  · have HEE : Hid (E = 4) := by rw [Hid, HTE.out]; rfl
    go_enter Tryz.func57, Tryz.ntmps57
    go_upto_region 1 with fail
    generalize hw1 : World.alloc _ _ = w1
    obtain ⟨he, o1, o2, -⟩ := alloc2 hw1
    obtain ⟨b0, b1, b2, b3⟩ := obj_cells4 o1
    obtain ⟨c0, c1, c2, c3⟩ := obj_cells4 o2
    have cf := obj_free o2
    have f0 := fun W (e : Ext w1 W) => cf W e 0
    have f1 := fun W (e : Ext w1 W) => cf W e 1
    have f2 := fun W (e : Ext w1 W) => cf W e 2
    have f3 := fun W (e : Ext w1 W) => cf W e 3
    have D0 := fun W (e : Ext w1 W) => d0 W (he.trans e)
    have E1 := Ext.refl w1
    have HE := Lib.hid he
    have HO2 := Lib.hid o2
    clear hw1 o1 o2 he cf d0
    go_wp2_with (fail)
    (with_reducible refine (HBE.out _).mono ?_); rintro e w2 ⟨rfl, he2⟩
    go_wp2_with (fail)
    generalize hwe : World.setCell (World.setCell (World.setCell (World.setCell w2 _ _) _ _) _ _) _ _ = we
    obtain ⟨hee, hbe⟩ := res4 HO2.out he2 (HE.out.trans he2) (Nat.le_succ _) hwe
    obtain ⟨r0, r1, r2, r3⟩ := obj_cells4 hbe
    have E9 := Ext.refl we
    refine bodyPost_ret (v := .tuple #[.agg #[.slice ba pts.length bc, .slice oa ord.length oc, .slice (some ⟨sb, so, none⟩) pts.length sc, .slice ra pts.length rc], .int .i64 4]) (by simp [results, Tryz.results57, go_sem, r0 _ E9, r1 _ E9, r2 _ E9, r3 _ E9]) rfl ⟨⟨ba, bc, oa, oc, some ⟨sb, so, none⟩, sc, ra, rc⟩, by rw [HEE.out], hee, fun g hg hx => hx, ?_⟩
    rw [HPT.out, HEE.out, if_neg (by decide)]
    exact H.out.ext hee
  · have hsf : (s != 0) = true := by rw [bne_iff_ne]; exact hs0
    have HEE : Hid (E = 6) := by rw [Hid, HTE.out, if_neg (by decide), if_pos hsf]
    go_enter Tryz.func57, Tryz.ntmps57
    go_upto_region 1 with fail
    generalize hw1 : World.alloc _ _ = w1
    obtain ⟨he, o1, o2, -⟩ := alloc2 hw1
    obtain ⟨b0, b1, b2, b3⟩ := obj_cells4 o1
    obtain ⟨c0, c1, c2, c3⟩ := obj_cells4 o2
    have cf := obj_free o2
    have f0 := fun W (e : Ext w1 W) => cf W e 0
    have f1 := fun W (e : Ext w1 W) => cf W e 1
    have f2 := fun W (e : Ext w1 W) => cf W e 2
    have f3 := fun W (e : Ext w1 W) => cf W e 3
    have D0 := fun W (e : Ext w1 W) => d0 W (he.trans e)
    have E1 := Ext.refl w1
    have HE := Lib.hid he
    have HO2 := Lib.hid o2
    clear hw1 o1 o2 he cf d0
    go_wp2_with (fail)
    (with_reducible refine (HBE.out _).mono ?_); rintro e w2 ⟨rfl, he2⟩
    go_wp2_with (fail)
    generalize hwe : World.setCell (World.setCell (World.setCell (World.setCell w2 _ _) _ _) _ _) _ _ = we
    obtain ⟨hee, hbe⟩ := res4 HO2.out he2 (HE.out.trans he2) (Nat.le_succ _) hwe
    obtain ⟨r0, r1, r2, r3⟩ := obj_cells4 hbe
    have E9 := Ext.refl we
    refine bodyPost_ret (v := .tuple #[.agg #[.slice ba pts.length bc, .slice oa ord.length oc, .slice (some ⟨sb, so, none⟩) pts.length sc, .slice ra pts.length rc], .int .i64 6]) (by simp [results, Tryz.results57, go_sem, r0 _ E9, r1 _ E9, r2 _ E9, r3 _ E9]) rfl ⟨⟨ba, bc, oa, oc, some ⟨sb, so, none⟩, sc, ra, rc⟩, by rw [HEE.out], hee, fun g hg hx => hx, ?_⟩
    rw [HPT.out, HEE.out, if_neg (by decide)]
    exact H.out.ext hee
  · have HEE : Hid (E = 0) := by rw [Hid, HTE.out]; rfl
    go_enter Tryz.func57, Tryz.ntmps57
    go_upto_region 1 with fail
    generalize hw1 : World.alloc _ _ = w1
    obtain ⟨he, o1, o2, -⟩ := alloc2 hw1
    obtain ⟨b0, b1, b2, b3⟩ := obj_cells4 o1
    obtain ⟨c0, c1, c2, c3⟩ := obj_cells4 o2
    have cf := obj_free o2
    have f0 := fun W (e : Ext w1 W) => cf W e 0
    have f1 := fun W (e : Ext w1 W) => cf W e 1
    have f2 := fun W (e : Ext w1 W) => cf W e 2
    have f3 := fun W (e : Ext w1 W) => cf W e 3
    have D0 := fun W (e : Ext w1 W) => d0 W (he.trans e)
    have E1 := Ext.refl w1
    have HE := Lib.hid he
    have HO2 := Lib.hid o2
    clear hw1 o1 o2 he cf d0
    go_wp2_with (fail)
    (with_reducible refine (HBE.out _).mono ?_); rintro e w2 ⟨rfl, he2⟩
    have HSZ : Hid (w.heap.size + 1 < w2.heap.size) := by have h1 := lt_of_block HO2.out; have h2 := he2.size; exact Nat.lt_of_lt_of_le h1 h2
    go_wp2_with (fail)
    (with_reducible refine (HWI.out _ (HE.out.trans he2)).mono ?_); rintro e wq ⟨ya, yc, za, zc, rfl, heq, hy1, hy2⟩
    have HY1 := Lib.hid hy1; have HY2 := Lib.hid hy2
    have hxq : Ext w1 wq := he2.trans heq
    clear he2 heq hy1 hy2
    go_wp2_with (fail)
    generalize hwe : World.setCell (World.setCell (World.setCell (World.setCell wq _ _) _ _) _ _) _ _ = we
    obtain ⟨hee, hbe⟩ := res4 HO2.out hxq (HE.out.trans hxq) (Nat.le_succ _) hwe
    obtain ⟨r0, r1, r2, r3⟩ := obj_cells4 hbe
    have E9 := Ext.refl we
    have hxx : ExtX (w.heap.size + 1) wq we := by rw [← hwe]; exact ((((ExtX.refl _ wq).set 0 _).set 1 _).set 2 _).set 3 _
    have hy1 := HY1.out
    have hy2 := HY2.out
    have hse := own_of_block hy1 fun j hj => hxx.block j (hy1.lt j hj).2 (by have := (hy1.lt j hj).1; have := HSZ.out; omega)
    have hre := own_of_block hy2 fun j hj => hxx.block j (hy2.lt j hj).2 (by have := (hy2.lt j hj).1; have := HSZ.out; omega)
    refine bodyPost_ret (v := .tuple #[.agg #[.slice ba pts.length bc, .slice oa ord.length oc, .slice ya pts.length yc, .slice za pts.length zc], .int .i64 0]) (by simp [results, Tryz.results57, go_sem, r0 _ E9, r1 _ E9, r2 _ E9, r3 _ E9]) rfl ⟨⟨ba, bc, oa, oc, ya, yc, za, zc⟩, by rw [HEE.out], hee, fun g hg hx => ⟨hx.ba, hx.oa, offA_own hy1 (.inl (by have := HSZ.out; omega)), offA_own hy2 (.inl (by have := HSZ.out; omega))⟩, ?_⟩
    rw [HPT.out, HEE.out, if_pos rfl]
    exact ⟨RowAt.ext blC_len (bl_set H.out.bl HK.out rfl) hee, H.out.ord.ext hee, RowAt.own stC_len hse, RowAt.own rsC_len hre⟩
end Go.Proofs.YtplbofhgmflnlaaGreat
