/-
  Walks: a book's Take.
-/
import Derived.Test.YtplbofhgmflnlaaGreatM25
set_option linter.unusedVariables false
set_option linter.unusedSimpArgs false
namespace Go.Proofs.YtplbofhgmflnlaaGreat
open Go.RowKit
section
variable {α : Type} {e sz : Nat} {f : α → List Value}
theorem rowF_set (hf : ∀ x, (f x).length = sz) (v : Value) (x' : α) (j : Nat) (hj : j < sz) : ∀ (xs : List α) (i : Nat) (hi : i < xs.length), f x' = (f xs[i]).set j v → (rowF f xs).set (i * sz + j) v = rowF f (xs.set i x')
  | x :: xs, 0, _, h => by
    simp only [rowF, List.flatMap_cons, Nat.zero_mul, Nat.zero_add, List.set_cons_zero, List.getElem_cons_zero] at h ⊢
    rw [List.set_append_left _ _ (by rw [hf]; exact hj), h]
  | x :: xs, i + 1, hi, h => by
    have ih := rowF_set hf v x' j hj xs i (by simpa using hi) (by simpa using h)
    simp only [rowF, List.flatMap_cons, List.set_cons_succ] at ih ⊢
    rw [List.set_append_right _ _ (by rw [hf, Nat.add_mul]; omega), hf, ← ih]
    congr 2
    rw [Nat.add_mul]; omega
theorem OwnF.setCell1 (hf : ∀ x, (f x).length = sz) {w : World} {B g n c : Nat} {xs : List α} (h : OwnF e sz f w B (.slice (some ⟨g, 0, none⟩) n c) xs) (i : Nat) (hi : i < xs.length) (j : Nat) (hj : j < sz) (v : Value) (x' : α) (hx : f x' = (f xs[i]).set j v) :
    OwnF e sz f (w.setCell ⟨g, i * sz + j, none⟩ v) B (.slice (some ⟨g, 0, none⟩) n c) (xs.set i x') := by
  obtain ⟨h0, h1⟩ := h
  unfold OwnF
  rw [List.length_set]
  refine ⟨by rw [rowF_len hf, List.length_set], ?_⟩
  rcases h1 with ⟨hv, -⟩ | ⟨g', cap, cur, hv, hg, hh, hnc, hcm, hs, ht⟩
  · cases hv
  · simp only [Value.slice.injEq, Option.some.injEq, Addr.mk.injEq, and_true] at hv
    obtain ⟨rfl, rfl, rfl⟩ := hv
    refine .inr ⟨g, _, _, rfl, hg, block_set hh _ _, hnc, hcm, by simp [hs], ?_⟩
    rw [Array.toList_setIfInBounds, List.take_set, ht]
    exact rowF_set hf v x' j hj xs i hi hx
end
theorem BkAt.put {w : World} {B : Nat} {x : Bp} {pts : List Pt} {ord : List Int} {gp : Nat} (h : BkAt w B x pts ord) (hp : x.pa = some ⟨gp, 0, none⟩) (k : Nat) (hk : k < pts.length) (j : Nat) (hj : j < 4) (v : Value) (p : Pt) (hpt : ptC p = (ptC (qth pts k)).set j v) :
    BkAt (w.setCell ⟨gp, k * 4 + j, none⟩ v) B x (pts.set k p) ord := by
  obtain ⟨gb, pa, pc, oa, oc⟩ := x
  simp only at hp
  subst hp
  have ho := OwnF.setCell1 ptC_len h.opts k hk j hj v p (by rw [← qth_eq pts k hk]; exact hpt)
  unfold BkAt bkL at *
  rw [List.length_set]
  have hx : ExtX gp w (w.setCell ⟨gp, k * 4 + j, none⟩ v) := (ExtX.refl gp w).set _ _
  have hr : (rwP (.slice (some ⟨gp, 0, none⟩) pts.length pc) (pts.set k p)).at (w.setCell ⟨gp, k * 4 + j, none⟩ v) B := ho
  exact RowsAt.wrMid (L1 := [rwB gb (.slice (some ⟨gp, 0, none⟩) pts.length pc) (.slice oa ord.length oc)]) (L2 := [rwI (.slice oa ord.length oc) ord]) (r := rwP (.slice (some ⟨gp, 0, none⟩) pts.length pc) pts) (r' := rwP (.slice (some ⟨gp, 0, none⟩) pts.length pc) (pts.set k p)) h hx rfl rfl hr
theorem Ints.take {w : World} {a : Option Addr} {xs : List Int} (h : Ints w a xs) (p : Nat) : Ints w a (xs.take p) := by
  rcases h with rfl | ⟨b, o, h1, h2⟩
  · left; simp
  · refine .inr ⟨b, o, h1, fun i hi => ?_⟩
    rw [List.length_take] at hi
    rw [nth_take _ _ _ (by omega)]
    exact h2 i (by omega)
theorem InB.take {n : Nat} {l : List Int} (h : InB n l) (p : Nat) : InB n (l.take p) := fun y hy => h y (List.mem_of_mem_take hy)
theorem InB.drop {n : Nat} {l : List Int} (h : InB n l) (p : Nat) : InB n (l.drop p) := fun y hy => h y (List.mem_of_mem_drop hy)
/-- What Take answers. -/
def takeE (pts : List Pt) (ord : List Int) (k : Nat) : Int :=
  if (qth pts k).st != 0 then 6 else if (ord.take (qth pts k).place.toNat).any (someP pts (qth pts k).blk 0) then 61 else 0
theorem Take_nil (k : Int) (w : World) : Calls Tryz.prog 54 #[.pointer none, .int .i64 k] w (Ret (.int .i64 1) w) := by
  have ho := find_nil k w
  go_enter Tryz.func54, Tryz.ntmps54
  go_wp2_with (go_at_call 96; (with_reducible refine ho.mono ?_); rintro e w2 ⟨rfl, he2⟩)
  go_ret
  exact ⟨rfl, he2⟩
set_option maxHeartbeats 1000000 in
theorem Take_no (B : Nat) (x : Bp) (pts : List Pt) (ord : List Int) (k : Int) (w : World) (h : BkAt w B x pts ord) (hk : k < 0 ∨ (pts.length : Int) ≤ k) : Calls Tryz.prog 54 #[bkV x, .int .i64 k] w (Ret (.int .i64 3) w) := by
  have ho := find_no B x pts ord k w h hk
  clear h
  go_enter Tryz.func54, Tryz.ntmps54
  go_wp2_with (go_at_call 96; (with_reducible refine ho.mono ?_); rintro e w2 ⟨rfl, he2⟩)
  go_ret
  exact ⟨rfl, he2⟩
set_option maxHeartbeats 4000000 in
theorem Take_any (B : Nat) (x : Bp) (pts : List Pt) (ord : List Int) (k : Nat) (gp : Nat) (w : World) (h : BkAt w B x pts ord) (hk : k < pts.length) (hgp : x.pa = some ⟨gp, 0, none⟩) (hb : InB pts.length ord) (hn : ord.length ≤ 1000000) (p : Nat) (hp : (qth pts k).place = (p : Int)) (hpn : p ≤ ord.length) :
    Calls Tryz.prog 54 #[bkV x, .int .i64 (k : Int)] w (fun e w' => e = .returned (.int .i64 (takeE pts ord k)) ∧ ExtX gp w w' ∧ BkAt w' B x (if takeE pts ord k = 0 then pts.set k { qth pts k with st := 1 } else pts) ord) := by
  obtain ⟨gp', hgp', hgB, hgl, d0, d1, d2, d3⟩ := h.pt k hk
  rw [hgp] at hgp'
  cases hgp'
  have HF := Lib.hid (find_ok B x pts ord k gp w h hk hgp)
  obtain ⟨b0, b1⟩ := obj_cells2 h.blk
  have HP := Lib.hid (fun W (e : Ext w W) => (h.ext e).put (hgp) k hk 2 (by omega) (.int .u8 1) { qth pts k with st := 1 } (by rfl))
  have HFR : Hid (∀ W, Ext w W → W.frozen? ⟨gp, k * 4 + 2, none⟩ = false) := fun W e => by
    have := OwnF.there ptC_len (show OwnP W B (.slice (some ⟨gp, 0, none⟩) pts.length x.pc) pts by rw [← hgp]; exact (h.ext e).opts) k hk 2 (by omega)
    exact this.2
  have hsm := fun W (e : Ext w W) => some_any B x pts ord x.oa (ord.take p) x.oc (qth pts k).blk 0 W (h.ext e) ((h.ints.ext e).take p) (hb.take p) (by rw [List.length_take]; omega)
  rw [List.length_take, Nat.min_eq_left hpn] at hsm
  have hpc : p ≤ x.oc := by have := h.cap; omega
  rw [hp] at d1
  have HT : Hid (takeE pts ord k = if (qth pts k).st != 0 then 6 else if (ord.take p).any (someP pts (qth pts k).blk 0) then 61 else 0) := by rw [Hid]; unfold takeE; rw [hp, Int.toNat_natCast]
  rw [HT.out]
  obtain ⟨q, hq⟩ : ∃ q, q = (qth pts k).st := ⟨_, rfl⟩
  obtain ⟨bl, hbl⟩ : ∃ bl, bl = (qth pts k).blk := ⟨_, rfl⟩
  obtain ⟨S, hS⟩ : ∃ S, S = (ord.take p).any (someP pts bl 0) := ⟨_, rfl⟩
  rw [← hbl] at d0 hsm ⊢
  rw [← hS] at hsm ⊢
  rw [← hq] at d2 ⊢
  have HSM := Lib.hid hsm
  have H := Lib.hid h
  obtain ⟨oa, hoa⟩ : ∃ oa, oa = x.oa := ⟨_, rfl⟩
  obtain ⟨oc, hoc⟩ : ∃ oc, oc = x.oc := ⟨_, rfl⟩
  rw [← hoa, ← hoc] at b1 HSM
  rw [← hoc] at hpc
  obtain ⟨m, hm⟩ : ∃ m, m = ord.length := ⟨_, rfl⟩
  rw [← hm] at b1 hpn
  clear h hq hbl hS hsm HT hp d3 hoa hoc hm
  have HS2 : Hid (∀ w2, Ext w w2 → ∀ n : Later w2, Calls Tryz.prog 97 #[bkV x, .slice oa p oc, .int .i64 bl, .int .u8 0] n.val (Ret (.bool S) n.val)) := fun w2 e n => HSM.out n.val (e.trans n.ok)
  clear HSM
  cases T : (q != 0)
  · cases S
    · go_enter Tryz.func54, Tryz.ntmps54
      go_upto_region 6 with (go_at_call 96; (with_reducible refine HF.out.mono ?_); rintro e w2 ⟨rfl, he2⟩; have D2 := fun W (e : Ext w2 W) => d2 W (he2.trans e); have hr0 := Ext.refl w2)
      have B1 := fun W (e : Ext w2 W) => b1 W (he2.trans e)
      have D0 := fun W (e : Ext w2 W) => d0 W (he2.trans e)
      have D1 := fun W (e : Ext w2 W) => d1 W (he2.trans e)
      have F2 := fun W (e : Ext w2 W) => HFR.out W (he2.trans e)
      have HS3 := Lib.hid (HS2.out w2 he2)
      clear HS2 b0 b1 d0 d1 d2 HF
      refine wp_region_ext (by kernel_rfl) (by kernel_rfl) hr0 ?_
      repeat (first | go_big_quiet_step (((go_at_call 97; exact Calls.later (HS3.out _)))) | quiet_step (((go_at_call 97; exact Calls.later (HS3.out _)))))
      refine wpQuiet_nil ?_
      rintro _ ⟨nq, rfl⟩
      have hq2 := nq.ok
      go_wp2_with (fail)
      go_ret
      have e1 := he2.trans hq2
      refine ⟨by simp, e1.x.set _ _, ?_⟩
      (try simp only [Bool.false_eq_true, if_false, if_true])
      exact HP.out _ e1
    · go_enter Tryz.func54, Tryz.ntmps54
      go_upto_region 6 with (go_at_call 96; (with_reducible refine HF.out.mono ?_); rintro e w2 ⟨rfl, he2⟩; have D2 := fun W (e : Ext w2 W) => d2 W (he2.trans e); have hr0 := Ext.refl w2)
      have B1 := fun W (e : Ext w2 W) => b1 W (he2.trans e)
      have D0 := fun W (e : Ext w2 W) => d0 W (he2.trans e)
      have D1 := fun W (e : Ext w2 W) => d1 W (he2.trans e)
      have HS3 := Lib.hid (HS2.out w2 he2)
      clear HS2 b0 b1 d0 d1 d2 HF
      refine wp_region_ext (by kernel_rfl) (by kernel_rfl) hr0 ?_
      repeat (first | go_big_quiet_step (((go_at_call 97; exact Calls.later (HS3.out _)))) | quiet_step (((go_at_call 97; exact Calls.later (HS3.out _)))))
      refine wpQuiet_nil ?_
      rintro _ ⟨nq, rfl⟩
      have hq2 := nq.ok
      go_wp2_with (fail)
      go_ret
      have e1 := he2.trans hq2
      refine ⟨by simp, e1.x, ?_⟩
      (try simp only [Bool.false_eq_true, if_false, if_true])
      exact H.out.ext e1
  · go_enter Tryz.func54, Tryz.ntmps54
    go_wp2_with (go_at_call 96; (with_reducible refine HF.out.mono ?_); rintro e w2 ⟨rfl, he2⟩; have D2 := fun W (e : Ext w2 W) => d2 W (he2.trans e); have hr0 := Ext.refl w2)
    go_ret
    refine ⟨by simp, he2.x, ?_⟩
    (try simp only [if_true])
    exact H.out.ext he2
end Go.Proofs.YtplbofhgmflnlaaGreat
