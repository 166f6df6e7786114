/-
  Walks: a book's Declare and Reopen.
-/
import Derived.Test.YtplbofhgmflnlaaGreatME
set_option linter.unusedVariables false
set_option linter.unusedSimpArgs false
namespace Go.Proofs.YtplbofhgmflnlaaGreat
open Go.RowKit
/-- What Declare answers at a point. -/
def declE (pts : List Pt) (k : Nat) (r : ByteArray) : Int := if !nameB r then 4 else if (qth pts k).st != 0 then 6 else 0
theorem Declare_nil (k : Int) (r : ByteArray) (w : World) : Calls Tryz.prog 56 #[.pointer none, .int .i64 k, .string r] w (Ret (.int .i64 1) w) := by
  have ho := find_nil k w
  go_enter Tryz.func56, Tryz.ntmps56
  go_wp2_with (go_at_call 96; (with_reducible refine ho.mono ?_); rintro e w2 ⟨rfl, he2⟩)
  go_ret
  exact ⟨rfl, he2⟩
set_option maxHeartbeats 1000000 in
theorem Declare_no (B : Nat) (x : Bp) (pts : List Pt) (ord : List Int) (k : Int) (r : ByteArray) (w : World) (h : BkAt w B x pts ord) (hk : k < 0 ∨ (pts.length : Int) ≤ k) : Calls Tryz.prog 56 #[bkV x, .int .i64 k, .string r] w (Ret (.int .i64 3) w) := by
  have ho := find_no B x pts ord k w h hk
  clear h
  go_enter Tryz.func56, Tryz.ntmps56
  go_wp2_with (go_at_call 96; (with_reducible refine ho.mono ?_); rintro e w2 ⟨rfl, he2⟩)
  go_ret
  exact ⟨rfl, he2⟩
theorem set_set_pt (pts : List Pt) (k : Nat) (p q : Pt) : (pts.set k p).set k q = pts.set k q := List.set_set ..
theorem qth_set (pts : List Pt) (k : Nat) (p : Pt) (hk : k < pts.length) : qth (pts.set k p) k = p := by simp [qth, hk]
set_option maxHeartbeats 4000000 in
theorem Declare_any (B : Nat) (x : Bp) (pts : List Pt) (ord : List Int) (k : Nat) (gp : Nat) (r : ByteArray) (w : World) (h : BkAt w B x pts ord) (hk : k < pts.length) (hgp : x.pa = some ⟨gp, 0, none⟩) (hr : r.size ≤ maxLen) :
    Calls Tryz.prog 56 #[bkV x, .int .i64 (k : Int), .string r] w (fun e w' => e = .returned (.int .i64 (declE pts k r)) ∧ ExtX gp w w' ∧ BkAt w' B x (if declE pts k r = 0 then pts.set k { qth pts k with st := 2, rs := r } else pts) ord) := by
  obtain ⟨gp', hgp', hgB, hgl, d0, d1, d2, d3⟩ := h.pt k hk
  rw [hgp] at hgp'
  cases hgp'
  have HF := Lib.hid (find_ok B x pts ord k gp w h hk hgp)
  have HN := Lib.hid (fun W => isReason_any r W hr)
  have HP := Lib.hid (fun W (e : Ext w W) => by
    have h1 := (h.ext e).put hgp k hk 2 (by omega) (.int .u8 2) { qth pts k with st := 2 } (by rfl)
    have h2 := h1.put hgp k (by rw [List.length_set]; exact hk) 3 (by omega) (.string r) { qth pts k with st := 2, rs := r } (by rw [qth_set _ _ _ hk]; rfl)
    rw [set_set_pt] at h2
    exact h2)
  have HFR : Hid (∀ W, Ext w W → ∀ j, j < 4 → W.frozen? ⟨gp, k * 4 + j, none⟩ = false) := fun W e j hj => by
    have := OwnF.there ptC_len (show OwnP W B (.slice (some ⟨gp, 0, none⟩) pts.length x.pc) pts by rw [← hgp]; exact (h.ext e).opts) k hk j hj
    exact this.2
  have HT : Hid (declE pts k r = if !nameB r then 4 else if (qth pts k).st != 0 then 6 else 0) := rfl
  rw [HT.out]
  obtain ⟨q, hq⟩ : ∃ q, q = (qth pts k).st := ⟨_, rfl⟩
  obtain ⟨r0, hr0⟩ : ∃ r0, r0 = (qth pts k).rs := ⟨_, rfl⟩
  rw [← hq] at d2 ⊢
  rw [← hr0] at d3
  have H := Lib.hid h
  clear h hq hr0 HT hr d0 d1
  cases T : nameB r
  · rw [T] at HN
    go_enter Tryz.func56, Tryz.ntmps56
    go_wp2_with (first | (go_at_call 96; (with_reducible refine HF.out.mono ?_); rintro e w2 ⟨rfl, he2⟩) | (go_at_call 100; (with_reducible refine (HN.out _).mono ?_); rintro e w3 ⟨rfl, he3⟩))
    go_ret
    refine ⟨by simp, (he2.trans he3).x, ?_⟩
    (try simp only [Bool.not_false, if_true])
    exact H.out.ext (he2.trans he3)
  · rw [T] at HN
    cases T2 : (q != 0)
    · go_enter Tryz.func56, Tryz.ntmps56
      go_wp2_with (first | (go_at_call 96; (with_reducible refine HF.out.mono ?_); rintro e w2 ⟨rfl, he2⟩) | (go_at_call 100; (with_reducible refine (HN.out _).mono ?_); rintro e w3 ⟨rfl, he3⟩; have D2 := fun W (e : Ext w3 W) => d2 W ((he2.trans he3).trans e); have D3 := fun W (e : Ext w3 W) => d3 W ((he2.trans he3).trans e); have F2 := fun W (e : Ext w3 W) => HFR.out W ((he2.trans he3).trans e) 2 (by omega); have F3 := fun W (e : Ext w3 W) => HFR.out W ((he2.trans he3).trans e) 3 (by omega); have E3 := Ext.refl w3; clear d2 d3 HFR))
      go_ret
      refine ⟨by simp, ((he2.trans he3).x.set _ _).set _ _, ?_⟩
      (try simp only [Bool.not_true, Bool.false_eq_true, if_false, if_true])
      exact HP.out _ (he2.trans he3)
    · go_enter Tryz.func56, Tryz.ntmps56
      go_wp2_with (first | (go_at_call 96; (with_reducible refine HF.out.mono ?_); rintro e w2 ⟨rfl, he2⟩) | (go_at_call 100; (with_reducible refine (HN.out _).mono ?_); rintro e w3 ⟨rfl, he3⟩; have D2 := fun W (e : Ext w3 W) => d2 W ((he2.trans he3).trans e); have E3 := Ext.refl w3; clear d2 d3 HFR))
      go_ret
      refine ⟨by simp, (he2.trans he3).x, ?_⟩
      (try simp only [Bool.not_true, Bool.false_eq_true, if_false, if_true])
      exact H.out.ext (he2.trans he3)
/-- What Reopen answers at a point. -/
def reopE (pts : List Pt) (ord : List Int) (k : Nat) : Int :=
  if (qth pts k).st != 2 then 7 else if (ord.drop ((qth pts k).place.toNat + 1)).any (someP pts (qth pts k).blk 1) then 9 else 0
theorem Reopen_nil (k : Int) (w : World) : Calls Tryz.prog 58 #[.pointer none, .int .i64 k] w (Ret (.int .i64 1) w) := by
  have ho := find_nil k w
  go_enter Tryz.func58, Tryz.ntmps58
  go_wp2_with (go_at_call 96; (with_reducible refine ho.mono ?_); rintro e w2 ⟨rfl, he2⟩)
  go_ret
  exact ⟨rfl, he2⟩
set_option maxHeartbeats 1000000 in
theorem Reopen_no (B : Nat) (x : Bp) (pts : List Pt) (ord : List Int) (k : Int) (w : World) (h : BkAt w B x pts ord) (hk : k < 0 ∨ (pts.length : Int) ≤ k) : Calls Tryz.prog 58 #[bkV x, .int .i64 k] w (Ret (.int .i64 3) w) := by
  have ho := find_no B x pts ord k w h hk
  clear h
  go_enter Tryz.func58, Tryz.ntmps58
  go_wp2_with (go_at_call 96; (with_reducible refine ho.mono ?_); rintro e w2 ⟨rfl, he2⟩)
  go_ret
  exact ⟨rfl, he2⟩
theorem OwnI.drop {w : World} {B g n c : Nat} {xs : List Int} (hn : xs.length = n) (h : OwnI w B (.slice (some ⟨g, 0, none⟩) n c) xs) (p : Nat) : Ints w (some ⟨g, p, none⟩) (xs.drop p) := by
  refine .inr ⟨g, p, rfl, fun i hi => ?_⟩
  rw [List.length_drop] at hi
  rw [ownI_cell hn h (p + i) (by omega), nth_eq _ _ (by omega), nth_eq _ _ (by rw [List.length_drop]; omega)]
  simp
set_option maxHeartbeats 4000000 in
theorem Reopen_any (B : Nat) (x : Bp) (pts : List Pt) (ord : List Int) (k : Nat) (gp : Nat) (w : World) (h : BkAt w B x pts ord) (hk : k < pts.length) (hgp : x.pa = some ⟨gp, 0, none⟩) (hb : InB pts.length ord) (hn : ord.length ≤ 1000000) (p : Nat) (hp : (qth pts k).place = (p : Int)) (hpn : p < ord.length) :
    Calls Tryz.prog 58 #[bkV x, .int .i64 (k : Int)] w (fun e w' => e = .returned (.int .i64 (reopE pts ord k)) ∧ ExtX gp w w' ∧ BkAt w' B x (if reopE pts ord k = 0 then pts.set k { qth pts k with st := 0, rs := ⟨#[]⟩ } else pts) ord) := by
  obtain ⟨gp', hgp', hgB, hgl, d0, d1, d2, d3⟩ := h.pt k hk
  rw [hgp] at hgp'
  cases hgp'
  have HF := Lib.hid (find_ok B x pts ord k gp w h hk hgp)
  obtain ⟨b0, b1⟩ := obj_cells2 h.blk
  have HP := Lib.hid (fun W (e : Ext w W) => by
    have h1 := (h.ext e).put hgp k hk 2 (by omega) (.int .u8 0) { qth pts k with st := 0 } (by rfl)
    have h2 := h1.put hgp k (by rw [List.length_set]; exact hk) 3 (by omega) (.string ⟨#[]⟩) { qth pts k with st := 0, rs := ⟨#[]⟩ } (by rw [qth_set _ _ _ hk]; rfl)
    rw [set_set_pt] at h2
    exact h2)
  have HFR : Hid (∀ W, Ext w W → ∀ j, j < 4 → W.frozen? ⟨gp, k * 4 + j, none⟩ = false) := fun W e j hj => by
    have := OwnF.there ptC_len (show OwnP W B (.slice (some ⟨gp, 0, none⟩) pts.length x.pc) pts by rw [← hgp]; exact (h.ext e).opts) k hk j hj
    exact this.2
  obtain ⟨og, oc', hoa', -, -⟩ := full_row (r := rwI (.slice x.oa ord.length x.oc) ord) h.oord (by show ord.length ≠ 0; omega)
  have hoa : x.oa = some ⟨og, 0, none⟩ := by
    have : Value.slice x.oa ord.length x.oc = .slice (some ⟨og, 0, none⟩) ord.length oc' := hoa'
    simp only [Value.slice.injEq] at this; exact this.1
  have hid := fun W (e : Ext w W) => show Ints W (if x.oc = p + 1 then some ⟨og, 0, none⟩ else some ⟨og, p + 1, none⟩) (ord.drop (p + 1)) by
    split
    · rename_i he
      have := h.cap
      left
      rw [List.drop_eq_nil_iff]; omega
    · exact OwnI.drop rfl (show OwnI W B (.slice (some ⟨og, 0, none⟩) ord.length x.oc) ord by rw [← hoa]; exact (h.ext e).oord) (p + 1)
  have hsm := fun W (e : Ext w W) => some_any B x pts ord (if x.oc = p + 1 then some ⟨og, 0, none⟩ else some ⟨og, p + 1, none⟩) (ord.drop (p + 1)) (x.oc - (p + 1)) (qth pts k).blk 1 W (h.ext e) (hid W e) (hb.drop (p + 1)) (by rw [List.length_drop]; omega)
  rw [List.length_drop] at hsm
  have hpc : p + 1 ≤ x.oc := by have := h.cap; omega
  have hpm : ord.length ≤ x.oc := h.cap
  rw [hp] at d1
  have HT : Hid (reopE pts ord k = if (qth pts k).st != 2 then 7 else if (ord.drop (p + 1)).any (someP pts (qth pts k).blk 1) then 9 else 0) := by rw [Hid]; unfold reopE; rw [hp, Int.toNat_natCast]
  rw [HT.out]
  obtain ⟨q, hq⟩ : ∃ q, q = (qth pts k).st := ⟨_, rfl⟩
  obtain ⟨bl, hbl⟩ : ∃ bl, bl = (qth pts k).blk := ⟨_, rfl⟩
  obtain ⟨r0, hr0⟩ : ∃ r0, r0 = (qth pts k).rs := ⟨_, rfl⟩
  obtain ⟨S, hS⟩ : ∃ S, S = (ord.drop (p + 1)).any (someP pts bl 1) := ⟨_, rfl⟩
  rw [← hbl] at d0 hsm ⊢
  rw [← hS] at hsm ⊢
  rw [← hq] at d2 ⊢
  rw [← hr0] at d3
  have HSM := Lib.hid hsm
  have H := Lib.hid h
  obtain ⟨oc, hoc⟩ : ∃ oc, oc = x.oc := ⟨_, rfl⟩
  rw [hoa, ← hoc] at b1
  rw [← hoc] at hpc hpm HSM
  obtain ⟨m, hm⟩ : ∃ m, m = ord.length := ⟨_, rfl⟩
  rw [← hm] at b1 hpn HSM hpm
  have HS2 : Hid (∀ w2, Ext w w2 → ∀ n : Later w2, Calls Tryz.prog 97 #[bkV x, .slice (if oc = p + 1 then some ⟨og, 0, none⟩ else some ⟨og, p + 1, none⟩) (m - (p + 1)) (oc - (p + 1)), .int .i64 bl, .int .u8 1] n.val (Ret (.bool S) n.val)) := fun w2 e n => HSM.out n.val (e.trans n.ok)
  have hp1 : (0 : Int) ≤ (p : Int) := by omega
  have hpb : (p : Int) ≤ 1000000 := by omega
  have hpi : (p : Int) + 1 ≤ (m : Int) := by omega
  clear h hq hbl hS hsm HT hp hoa hoc hm hoa' hr0 HSM hid
  cases T : (q != 2)
  · cases S
    · go_enter Tryz.func58, Tryz.ntmps58
      go_upto_region 6 with (go_at_call 96; (with_reducible refine HF.out.mono ?_); rintro e w2 ⟨rfl, he2⟩; have D2 := fun W (e : Ext w2 W) => d2 W (he2.trans e); have hr0 := Ext.refl w2)
      have B1 := fun W (e : Ext w2 W) => b1 W (he2.trans e)
      have D0 := fun W (e : Ext w2 W) => d0 W (he2.trans e)
      have D1 := fun W (e : Ext w2 W) => d1 W (he2.trans e)
      have D3 := fun W (e : Ext w2 W) => d3 W (he2.trans e)
      have F2 := fun W (e : Ext w2 W) => HFR.out W (he2.trans e) 2 (by omega)
      have F3 := fun W (e : Ext w2 W) => HFR.out W (he2.trans e) 3 (by omega)
      have HS3 := Lib.hid (HS2.out w2 he2)
      clear HS2 b0 b1 d0 d1 d2 d3 HF
      refine wp_region_ext (by kernel_rfl) (by kernel_rfl) hr0 ?_
      repeat (first | go_big_quiet_step (((go_at_call 97; exact Calls.later (HS3.out _)))) | quiet_step (((go_at_call 97; exact Calls.later (HS3.out _)))))
      refine wpQuiet_nil ?_
      rintro _ ⟨nq, rfl⟩
      have hq2 := nq.ok
      clear HS3
      generalize (if oc = p + 1 then some (⟨og, 0, none⟩ : Addr) else some ⟨og, p + 1, none⟩) = AD
      go_wp2_with (fail)
      go_ret
      have e1 := he2.trans hq2
      refine ⟨by simp, (e1.x.set _ _).set _ _, ?_⟩
      (try simp only [Bool.false_eq_true, if_false, if_true])
      exact HP.out _ e1
    · go_enter Tryz.func58, Tryz.ntmps58
      go_upto_region 6 with (go_at_call 96; (with_reducible refine HF.out.mono ?_); rintro e w2 ⟨rfl, he2⟩; have D2 := fun W (e : Ext w2 W) => d2 W (he2.trans e); have hr0 := Ext.refl w2)
      have B1 := fun W (e : Ext w2 W) => b1 W (he2.trans e)
      have D0 := fun W (e : Ext w2 W) => d0 W (he2.trans e)
      have D1 := fun W (e : Ext w2 W) => d1 W (he2.trans e)
      have HS3 := Lib.hid (HS2.out w2 he2)
      clear HS2 b0 b1 d0 d1 d2 HF
      refine wp_region_ext (by kernel_rfl) (by kernel_rfl) hr0 ?_
      repeat (first | go_big_quiet_step (((go_at_call 97; exact Calls.later (HS3.out _)))) | quiet_step (((go_at_call 97; exact Calls.later (HS3.out _)))))
      refine wpQuiet_nil ?_
      rintro _ ⟨nq, rfl⟩
      have hq2 := nq.ok
      clear HS3
      generalize (if oc = p + 1 then some (⟨og, 0, none⟩ : Addr) else some ⟨og, p + 1, none⟩) = AD
      go_wp2_with (fail)
      go_ret
      have e1 := he2.trans hq2
      refine ⟨by simp, e1.x, ?_⟩
      (try simp only [Bool.false_eq_true, if_false, if_true])
      exact H.out.ext e1
  · go_enter Tryz.func58, Tryz.ntmps58
    go_wp2_with (go_at_call 96; (with_reducible refine HF.out.mono ?_); rintro e w2 ⟨rfl, he2⟩; have D2 := fun W (e : Ext w2 W) => d2 W (he2.trans e); have hr0 := Ext.refl w2)
    go_ret
    refine ⟨by simp, he2.x, ?_⟩
    (try simp only [if_true])
    exact H.out.ext he2
end Go.Proofs.YtplbofhgmflnlaaGreat
