/-
  Texts merged: V4, V5, V6, V7.
-/
import Derived.Test.YtlahejakcgoheaaWG
section
/-
  Walk: Revise.
-/
set_option linter.unusedVariables false
set_option linter.unusedSimpArgs false
namespace Go.Proofs.Ytlahejakcgoheaa
open Go.RowKit
/-- A customer's record that has not expired, and the error. -/
def recAt (S : PV) (n : ByteArray) (num : Int) : List Lk × Int := match S.find n with | none => ([], 7) | some c => findR c num S.day
def revE (S : PV) (n p : ByteArray) (num : Int) (t : ByteArray) : Int :=
  if enterR S n p ≠ 0 then enterR S n p else if (recAt S n num).2 ≠ 0 then (recAt S n num).2 else if 2000 < t.size then 5 else if 20 ≤ (recAt S n num).1.length then 8 else 0
def revL0 (S : PV) (n : ByteArray) (num : Int) : Lk := ⟨4, n, ⟨#[]⟩, num, ((recAt S n num).1.length : Int) + 1, S.day, 0, [], 0, 0⟩
def revL (S : PV) (n p : ByteArray) (num : Int) (t : ByteArray) : Lk := sealedL (keyN n p) (revL0 S n num) t.data.toList
def revS (S : PV) (n p : ByteArray) (num : Int) (t : ByteArray) : PV := if revE S n p num t = 0 then putS S (chained S (revL S n p num t)) else S
def revR (S : PV) (n p : ByteArray) (num : Int) (t : ByteArray) : Value := .tuple #[.int .i64 (if revE S n p num t = 0 then ((recAt S n num).1.length : Int) + 1 else 0), .int .i64 (revE S n p num t)]
theorem rev_could {S : PV} {n p : ByteArray} {num : Int} {t : ByteArray} (h : revE S n p num t = 0) : couldB S (chained S (revL S n p num t)) = true := by
  unfold revE at h
  split at h
  · rename_i q; exact absurd h q
  · rename_i q
    simp only [ne_eq, Decidable.not_not] at q
    split at h
    · rename_i q2; exact absurd h q2
    · rename_i q2
      simp only [ne_eq, Decidable.not_not] at q2
      split at h
      · omega
      · rename_i q4
        split at h
        · omega
        · rename_i q5
          obtain ⟨c, hf⟩ := enter_find q
          have hr : recAt S n num = findR c num S.day := by unfold recAt; rw [hf]
          have hb := sealed_body (key := keyN n p) (l := revL0 S n num) (t := t) (by omega)
          have e1 : (chained S (revL S n p num t)).nu = num := rfl
          have e2 : (chained S (revL S n p num t)).ve = ((recAt S n num).1.length : Int) + 1 := rfl
          rw [couldB_4 S (chained S (revL S n p num t)) c (by rfl) rfl hf ⟨rfl, hb⟩ (by rw [e1, ← hr]; exact q2)]
          rw [e1, e2, ← hr]
          simp; omega
theorem revL0_ok {S : PV} {n : ByteArray} {num : Int} (hg : Good S) (hr : (recAt S n num).1.length ≤ 20) (hn : n.size ≤ maxLen) (h0 : -9223372036854775808 ≤ num) (h1 : num ≤ 9223372036854775807) : LkOk (revL0 S n num) := by
  have d0 := hg.ok.d0; have d1 := hg.ok.d1
  refine ⟨by simp [revL0], hn, by show (0:Nat) ≤ maxLen; exact Nat.zero_le _, h0, h1, ?_, ?_, ?_, ?_, by simp [revL0], by simp [revL0], by simp [revL0], by simp [revL0], by simp [revL0]⟩
  · show -9223372036854775808 ≤ ((recAt S n num).1.length : Int) + 1; omega
  · show ((recAt S n num).1.length : Int) + 1 ≤ 9223372036854775807; omega
  · show -9223372036854775808 ≤ S.day; omega
  · show S.day ≤ 9223372036854775807; omega
/-- 'find' in a customer of a vault. -/
theorem find_vw (V : Vw) (w W : World) (h : VwAt w V V.chain) (hg : Good V.p) (e : Ext w W) (c : Cw) (hc : c ∈ V.cus) (num : Int) (h0 : -9223372036854775808 ≤ num) (h1 : num ≤ 9223372036854775807) : Calls Try.prog 69 #[ptr c.cb, .int .i64 num, .int .i64 V.day] W (Ret (findV c num V.day) W) := by
  have hpc := hg.ok.cs c.p (List.mem_map.2 ⟨c, hc, rfl⟩)
  have he := h.ext e
  have hrl := hpc.rl
  simp only [Cw.p, List.length_map] at hrl
  refine find_any c (foot V) V.chain num V.day W (he.cus c hc) he.links (h.recs c hc) (fun r hr => ?_) (by omega) h0 h1
  have := (hpc.rr r.p (List.mem_map.2 ⟨r, hr, rfl⟩)).1
  have h2 : r.p.length = r.ls.length := by simp [Rv.p]
  have := List.length_pos_iff.2 this
  omega
set_option maxRecDepth 100000 in
set_option maxHeartbeats 4000000 in
theorem rev_vw (V : Vw) (w : World) (h : VwAt w V V.chain) (hg : Good V.p) (n p : ByteArray) (num : Int) (t : ByteArray) (hn : n.size ≤ maxLen) (hp : p.size ≤ maxLen) (ht : t.size ≤ maxLen) (h0 : -9223372036854775808 ≤ num) (h1 : num ≤ 9223372036854775807) :
    Calls Try.prog 40 #[ptr V.vb, .string n, .string p, .int .i64 num, .string t] w (RetStep V.vb (revS V.p n p num t) (foot V) (V.chain.flatMap lfoot) (revR V.p n p num t) w) := by
  have hva : VaultAt w V.vb V.p (foot V) (V.chain.flatMap lfoot) := ⟨V, rfl, rfl, h, rfl, rfl⟩
  have hen := enter_any V V.chain n p w h hn hp
  obtain ⟨c0, c1, c2, c3⟩ := obj_cells4 h.blk
  obtain ⟨r, hr⟩ : ∃ r, r = revE V.p n p num t := ⟨_, rfl⟩
  obtain ⟨v, hv⟩ : ∃ v, v = revR V.p n p num t := ⟨_, rfl⟩
  have hv2 : v = .tuple #[.int .i64 (if r = 0 then ((recAt V.p n num).1.length : Int) + 1 else 0), .int .i64 r] := by rw [hv, hr]; rfl
  obtain ⟨S', hS⟩ : ∃ S', S' = revS V.p n p num t := ⟨_, rfl⟩
  have hbad : r ≠ 0 → S' = V.p := fun q => by rw [hS, revS, if_neg (by rw [← hr]; exact q)]
  have hbv : r ≠ 0 → v = .tuple #[.int .i64 0, .int .i64 r] := fun q => by rw [hv2, if_neg q]
  rw [← hS, ← hv]
  have HV := Lib.hid hva; have HH := Lib.hid h; have HG := Lib.hid hg; have HR := Lib.hid hr; have HS := Lib.hid hS; have HBAD := Lib.hid hbad; have HBV := Lib.hid hbv; have H0 := Lib.hid h0; have H1 := Lib.hid h1; have HVV := Lib.hid hv2
  have HEN := Lib.hid hen; have HT := Lib.hid ht; have HN := Lib.hid hn
  have d1 := hg.ok.d1; have d0 := hg.ok.d0
  simp only [Vw.p] at d1 d0
  clear hva h hg hr hS hbad c0 c2 c3 hv hv2 hbv hen
  go_enter Try.func40, Try.ntmps40
  go_wp2_with (fail)
  (with_reducible refine HEN.out.mono ?_); rintro e w1 ⟨rfl, he1⟩
  by_cases T0 : enterR V.p n p = 0
  · obtain ⟨c, hf, hev⟩ := enterV_good T0
    rw [hev]
    have HF := Lib.hid hf; have HT0 := Lib.hid T0
    clear hev hf T0
    obtain ⟨hcm, hcn⟩ := findW_mem HF.out
    obtain ⟨rv, ev, hfv, hfe, hf1⟩ := findV_parts c num V.day
    have hfd := find_vw V w w1 HH.out HG.out he1 c hcm num h0 h1
    rw [hfv] at hfd
    have hra : recAt V.p n num = findR c.p num V.day := by unfold recAt; rw [findW_p, HF.out]; rfl
    have hev : (recAt V.p n num).2 = ev := by rw [hra]; exact hfe
    have HFD := Lib.hid hfd; have HEV := Lib.hid hev
    have HR2 : Hid (r = if ev ≠ 0 then ev else if 2000 < t.size then 5 else if 20 ≤ (recAt V.p n num).1.length then 8 else 0) := by
      rw [Hid, HR.out, revE, if_neg (by rw [HT0.out]; simp), HEV.out]
    have HRV : Hid (ev = 0 → ∃ r : Rv, rv = r.val ∧ (recAt V.p n num).1.length = r.ls.length ∧ r.ls.length ≤ 20) := fun q => by
      obtain ⟨r, hrm, q1, q2⟩ := hf1 q
      refine ⟨r, q1, by rw [hra, q2]; simp [Rv.p], ?_⟩
      have hpc := HG.out.ok.cs c.p (List.mem_map.2 ⟨c, hcm, rfl⟩)
      have := (hpc.rr r.p (List.mem_map.2 ⟨r, hrm, rfl⟩)).2
      simpa [Rv.p] using this
    clear hfd hfe hf1 hra hev hcm hcn hfv
    have hfin : ∀ q : Int, q ≠ 0 → r = q → ∀ W, Ext w W → RetStep V.vb S' (foot V) (V.chain.flatMap lfoot) v w (.returned (.tuple #[.int .i64 0, .int .i64 q])) W := fun q q0 hq W he => by
      rw [HBAD.out (by rw [hq]; exact q0), HBV.out (by rw [hq]; exact q0), hq]
      exact RetStep.same HV.out he
    have HFIN := Lib.hid hfin
    clear hfin
    have c1a := c1 w1 he1
    have HC1 := Lib.hid c1
    clear c1
    go_wp2_with (fail)
    (with_reducible refine HFD.out.mono ?_); rintro e w2 ⟨rfl, he2⟩
    have he12 := he1.trans he2
    have c1 := HC1.out w2 he12
    clear c1a
    have hr0 := Ext.refl w2
    cases T1 : (ev != 0)
    · have hev0 : ev = 0 := by simpa using T1
      subst hev0
      obtain ⟨x, rfl, hxl, hx20⟩ := HRV.out rfl
      rw [if_neg (by simp), hxl] at HR2
      have HXL := Lib.hid hxl
      clear hxl
      unfold Rv.val
      obtain ⟨m, hm⟩ : ∃ m, m = x.ls.length := ⟨_, rfl⟩
      rw [← hm] at HXL hx20 HR2 ⊢
      clear hm
      cases T3 : decide (2000 < (t.size : Int))
      · cases T4 : decide (20 ≤ (m : Int))
        · have hq : Hid (r = 0) := by
            simp at T3 T4
            rw [Hid, HR2.out, if_neg (by omega), if_neg (by omega)]
          clear h0 h1
          go_upto_region 11 with fail
          have HQ4 : Hid ((recAt V.p n num).1.length ≤ 20 ∧ t.size ≤ 2000 ∧ (recAt V.p n num).1.length = m) := by
            rw [Hid, HXL.out]; simp at T3; exact ⟨hx20, by omega, rfl⟩
          obtain ⟨w3, hw3⟩ : ∃ w3, w3 = w2 := ⟨_, rfl⟩
          subst hw3
          have he3 := he12
          go_wp2_with fail
          clear c1 hr0
          generalize hw4 : World.alloc _ _ = w4
          obtain ⟨he4, o1, -⟩ := alloc1 hw4
          have o1s : w4.heap[w3.heap.size]? = some (.cells (lcells ⟨revL0 V.p n num, none, 0⟩) 59 (0, 0)) := by
            first
            | (rw [o1]; simp only [lcells, revL0, HQ4.out.2.2]; rfl)
            | (have hwr : wrap64 ((m : Int) + 1) = (m : Int) + 1 := wrap64_id (by have := HQ4.out; omega) (by have := HQ4.out; omega)
               rw [o1, hwr]; simp only [lcells, revL0, HQ4.out.2.2]; rfl)
          have h34 := he3.trans he4
          have hok0 := revL0_ok (n := n) (num := num) HG.out HQ4.out.1 HN.out H0.out H1.out
          have hsh := shut_any (keyN n p) w3.heap.size (revL0 V.p n num) t w4 (p61_64 (keyN_lt _ _)) hok0 rfl o1s HQ4.out.2.1
          have HSH := Lib.hid hsh; have HO0 := Lib.hid hok0; have HLT := Lib.hid (lt_of_block o1)
          clear hsh hok0 o1 o1s hw4
          with_reducible refine HSH.out.mono ?_
          rintro e w5 ⟨rfl, ba, bc, hx, hla, hbc, hba⟩
          have hq5 : Calls Try.prog 65 #[ptr V.vb, ptr w3.heap.size] w5 (AddPost V ⟨w3.heap.size, ⟨revL V.p n p num t, ba, bc⟩⟩ w) :=
            add_shut V w3.heap.size (revL V.p n p num t) ba bc w w4 w5 HH.out HG.out h34 he3.size HLT.out hx hla (sealed_ok HO0.out HQ4.out.2.1) hbc hba (sealed_body HQ4.out.2.1).1 (rev_could (HR.out.symm.trans hq.out))
          have HQ5 := Lib.hid hq5
          clear hq5 hx hla hbc hba HSH
          go_wp2_with (fail)
          with_reducible refine HQ5.out.mono ?_
          intro e w6 hpost
          have HP := Lib.hid hpost
          obtain rfl := hpost.1
          obtain ⟨cn, hcb⟩ := hpost.link
          obtain ⟨l0, l1, l2, l3, l4, l5, l6, l7, l8, l9⟩ := obj_cells10 hcb
          have l4b : w6.cell? ⟨w3.heap.size, 4, none⟩ = some (.int .i64 ((m : Int) + 1)) := by
            rw [← HQ4.out.2.2]; exact l4 w6 (Ext.refl _)
          clear hpost hcb l0 l1 l2 l3 l4 l5 l6 l7 l8 l9
          go_wp2_with (fail)
          go_ret2
          have := HP.out.step v
          rw [HS.out, revS, if_pos (HR.out.symm.trans hq.out)]
          rw [HVV.out, if_pos hq.out, hq.out, HQ4.out.2.2] at this
          rw [HVV.out, if_pos hq.out, hq.out, HQ4.out.2.2]
          exact this
        · have hq : Hid (r = 8) := by
            simp at T3 T4
            rw [Hid, HR2.out, if_neg (by omega), if_pos (by omega)]
          go_wp2_with (fail)
          go_ret2
          exact HFIN.out 8 (by decide) hq.out _ he12
      · have hq : Hid (r = 5) := by
          simp at T3
          rw [Hid, HR2.out, if_pos (by omega)]
        go_wp2_with (fail)
        go_ret2
        exact HFIN.out 5 (by decide) hq.out _ he12
    · have hev0 : ev ≠ 0 := by simpa using T1
      have hq : Hid (r = ev) := by rw [Hid, HR2.out, if_pos hev0]
      have HE0 := Lib.hid hev0
      clear hev0
      go_wp2_with (fail)
      go_ret2
      exact HFIN.out ev HE0.out hq.out _ he12
  · have hq : Hid (r = enterR V.p n p) := by rw [Hid, HR.out, revE, if_pos T0]
    rw [enterV_bad T0]
    have T : (enterR V.p n p != 0) = true := by simpa using T0
    have HT0 := Lib.hid T0
    clear T0
    generalize enterR V.p n p = r0 at *
    go_wp2_with (fail)
    go_ret2
    rw [HBAD.out (by rw [hq.out]; exact HT0.out), HBV.out (by rw [hq.out]; exact HT0.out), hq.out]
    exact RetStep.same HV.out he1
end Go.Proofs.Ytlahejakcgoheaa
end
section
/-
  Walks: open, Open.
-/
set_option linter.unusedVariables false
set_option linter.unusedSimpArgs false
namespace Go.Proofs.Ytlahejakcgoheaa
open Go.RowKit
def Lk.nil : Lk := ⟨0, ⟨#[]⟩, ⟨#[]⟩, 0, 0, 0, 0, [], 0, 0⟩
def textB (key : Nat) (l : Lk) : ByteArray := ⟨(textL key l).toArray⟩
/-- What 'open' gives: the text, the version, the error. -/
def openR (S : PV) (n p : ByteArray) (num ver : Int) : ByteArray × Int × Int :=
  if enterR S n p ≠ 0 then (⟨#[]⟩, 0, enterR S n p)
  else if (recAt S n num).2 ≠ 0 then (⟨#[]⟩, 0, (recAt S n num).2)
  else if ver < 0 ∨ ((recAt S n num).1.length : Int) < ver then (⟨#[]⟩, 0, 3)
  else
    let k := if ver = 0 then (recAt S n num).1.length else ver.toNat
    let l := (recAt S n num).1.getD (k - 1) Lk.nil
    if fitsL (keyN n p) l && okL (keyN n p) l then (textB (keyN n p) l, (k : Int), 0) else (⟨#[]⟩, 0, 112)
def openV (S : PV) (n p : ByteArray) (num ver : Int) : Value := .tuple #[.string (openR S n p num ver).1, .int .i64 (openR S n p num ver).2.1, .int .i64 (openR S n p num ver).2.2]
theorem openR_1 {S : PV} {n p : ByteArray} {num ver : Int} (h : enterR S n p ≠ 0) : openV S n p num ver = .tuple #[.string ⟨#[]⟩, .int .i64 0, .int .i64 (enterR S n p)] := by
  unfold openV openR; simp only [if_pos h]
theorem openR_2 {S : PV} {n p : ByteArray} {num ver : Int} (h : enterR S n p = 0) (h2 : (recAt S n num).2 ≠ 0) : openV S n p num ver = .tuple #[.string ⟨#[]⟩, .int .i64 0, .int .i64 (recAt S n num).2] := by
  unfold openV openR; simp only [if_neg (show ¬ enterR S n p ≠ 0 by simpa using h), if_pos h2]
theorem openR_3 {S : PV} {n p : ByteArray} {num ver : Int} (h : enterR S n p = 0) (h2 : (recAt S n num).2 = 0) (h3 : ver < 0 ∨ ((recAt S n num).1.length : Int) < ver) : openV S n p num ver = .tuple #[.string ⟨#[]⟩, .int .i64 0, .int .i64 3] := by
  unfold openV openR; simp only [if_neg (show ¬ enterR S n p ≠ 0 by simpa using h), if_neg (show ¬ (recAt S n num).2 ≠ 0 by simpa using h2), if_pos h3]
theorem openR_4 {S : PV} {n p : ByteArray} {num ver : Int} (h : enterR S n p = 0) (h2 : (recAt S n num).2 = 0) (h3 : ¬ (ver < 0 ∨ ((recAt S n num).1.length : Int) < ver)) (k : Nat) (hk : k = if ver = 0 then (recAt S n num).1.length else ver.toNat) (l : Lk) (hl : l = (recAt S n num).1.getD (k - 1) Lk.nil) :
    openV S n p num ver = if fitsL (keyN n p) l && okL (keyN n p) l then .tuple #[.string (textB (keyN n p) l), .int .i64 (k : Int), .int .i64 0] else .tuple #[.string ⟨#[]⟩, .int .i64 0, .int .i64 112] := by
  unfold openV openR; simp only [if_neg (show ¬ enterR S n p ≠ 0 by simpa using h), if_neg (show ¬ (recAt S n num).2 ≠ 0 by simpa using h2), if_neg h3]
  rw [← hk, ← hl]
  by_cases q : (fitsL (keyN n p) l && okL (keyN n p) l) = true
  · simp only [if_pos q]
  · simp only [if_neg q]
theorem openR_num {S : PV} {n p : ByteArray} {num ver : Int} (h0 : (openR S n p num ver).2.2 = 0) : enterR S n p = 0 ∧ (recAt S n num).2 = 0 ∧ ¬ (ver < 0 ∨ ((recAt S n num).1.length : Int) < ver) ∧ (openR S n p num ver).2.1 = ((if ver = 0 then (recAt S n num).1.length else ver.toNat : Nat) : Int) := by
  unfold openR at h0 ⊢
  by_cases q : enterR S n p ≠ 0
  · rw [if_pos q] at h0; exact absurd h0 q
  · rw [if_neg q] at h0 ⊢
    by_cases q2 : (recAt S n num).2 ≠ 0
    · rw [if_pos q2] at h0; exact absurd h0 q2
    · rw [if_neg q2] at h0 ⊢
      by_cases q3 : ver < 0 ∨ ((recAt S n num).1.length : Int) < ver
      · rw [if_pos q3] at h0; cases h0
      · rw [if_neg q3] at h0 ⊢
        refine ⟨by simpa using q, by simpa using q2, q3, ?_⟩
        obtain ⟨k, hk⟩ : ∃ k, k = if ver = 0 then (recAt S n num).1.length else ver.toNat := ⟨_, rfl⟩
        simp only [← hk] at h0 ⊢
        by_cases q4 : (fitsL (keyN n p) ((recAt S n num).1.getD (k - 1) Lk.nil) && okL (keyN n p) ((recAt S n num).1.getD (k - 1) Lk.nil)) = true
        · rw [if_pos q4]
        · rw [if_neg q4] at h0; cases h0
set_option maxRecDepth 100000 in
set_option maxHeartbeats 4000000 in
theorem open_any (V : Vw) (w : World) (h : VwAt w V V.chain) (hg : Good V.p) (n p : ByteArray) (num ver : Int) (hn : n.size ≤ maxLen) (hp : p.size ≤ maxLen) (h0 : -9223372036854775808 ≤ num) (h1 : num ≤ 9223372036854775807) (k0 : -9223372036854775808 ≤ ver) (k1 : ver ≤ 9223372036854775807) :
    Calls Try.prog 62 #[ptr V.vb, .string n, .string p, .int .i64 num, .int .i64 ver] w (Ret (openV V.p n p num ver) w) := by
  have hen := enter_any V V.chain n p w h hn hp
  obtain ⟨c0, c1, c2, c3⟩ := obj_cells4 h.blk
  obtain ⟨v, hv⟩ : ∃ v, v = openV V.p n p num ver := ⟨_, rfl⟩
  rw [← hv]
  have HH := Lib.hid h; have HG := Lib.hid hg; have HV := Lib.hid hv; have H0 := Lib.hid h0; have H1 := Lib.hid h1
  have HEN := Lib.hid hen; have HN := Lib.hid hn
  have d1 := hg.ok.d1; have d0 := hg.ok.d0
  simp only [Vw.p] at d1 d0
  clear h hg c0 c2 c3 hv hen
  go_enter Try.func62, Try.ntmps62
  go_wp2_with (fail)
  (with_reducible refine HEN.out.mono ?_); rintro e w1 ⟨rfl, he1⟩
  by_cases T0 : enterR V.p n p = 0
  · obtain ⟨c, hf, hev⟩ := enterV_good T0
    rw [hev]
    have HF := Lib.hid hf; have HT0 := Lib.hid T0
    clear hev hf T0
    obtain ⟨hcm, hcn⟩ := findW_mem HF.out
    obtain ⟨rv, ev, hfv, hfe, hf1⟩ := findV_parts c num V.day
    have hfd := find_vw V w w1 HH.out HG.out he1 c hcm num h0 h1
    rw [hfv] at hfd
    have hra : recAt V.p n num = findR c.p num V.day := by unfold recAt; rw [findW_p, HF.out]; rfl
    have hev : (recAt V.p n num).2 = ev := by rw [hra]; exact hfe
    have HFD := Lib.hid hfd; have HEV := Lib.hid hev
    have HRV : Hid (ev = 0 → ∃ r : Rv, r ∈ c.recs ∧ rv = r.val ∧ (recAt V.p n num).1 = r.p ∧ r.ls.length ≤ 20 ∧ 0 < r.ls.length) := fun q => by
      obtain ⟨r, hrm, q1, q2⟩ := hf1 q
      have hpc := HG.out.ok.cs c.p (List.mem_map.2 ⟨c, hcm, rfl⟩)
      have h3 := hpc.rr r.p (List.mem_map.2 ⟨r, hrm, rfl⟩)
      have h2 : r.p.length = r.ls.length := by simp [Rv.p]
      have h4 := List.length_pos_iff.2 h3.1
      refine ⟨r, hrm, q1, by rw [hra, q2], by omega, by omega⟩
    have HCM := Lib.hid hcm
    clear hfd hfe hf1 hra hev hcm hcn hfv
    have c1a := c1 w1 he1
    clear c1
    go_wp2_with (fail)
    (with_reducible refine HFD.out.mono ?_); rintro e w2 ⟨rfl, he2⟩
    have he12 := he1.trans he2
    clear c1a
    cases T1 : (ev != 0)
    · have hev0 : ev = 0 := by simpa using T1
      subst hev0
      obtain ⟨x, hxm, rfl, hxl, hx20, hx0⟩ := HRV.out rfl
      have hmm : (recAt V.p n num).1.length = x.ls.length := by rw [hxl]; simp [Rv.p]
      have hrow := ((HH.out.ext he12).cus c HCM.out).recs x hxm
      have hxs := HH.out.recs c HCM.out x hxm
      have HXL := Lib.hid hxl; have HROW := Lib.hid hrow; have HXS := Lib.hid hxs; have HMM := Lib.hid hmm
      clear hxl hrow hxs hxm hmm
      unfold Rv.val at HROW ⊢
      cases T2 : decide (ver < 0)
      · cases T3 : decide ((x.ls.length : Int) < ver)
        · have hng : ¬ (ver < 0 ∨ ((recAt V.p n num).1.length : Int) < ver) := by
            rw [HMM.out]; simp at T2 T3; omega
          have HNG := Lib.hid hng
          clear hng
          cases T4 : (ver == 0)
          · obtain ⟨i, hi⟩ : ∃ i : Nat, ver = (i : Int) + 1 := ⟨(ver - 1).toNat, by simp at T2 T4; omega⟩
            have hil : i < x.ls.length := by simp at T3; omega
            have HIV := Lib.hid hi
            have hi1 : (i : Int) < (x.ls.length : Int) := by omega
            subst hi
            have hi0 : (0 : Int) ≤ (i : Int) := by omega
            obtain ⟨g, hg1, hg2⟩ := row_at HROW.out i hil
            rw [hg1]
            replace hg2 := hg2 w2 (Ext.refl _)
            obtain ⟨y, hy⟩ : ∃ y, y = x.ls[i] := ⟨_, rfl⟩
            rw [← hy] at hg2
            have hyl : y.l = (recAt V.p n num).1.getD (i + 1 - 1) Lk.nil := by rw [HXL.out, hy]; simp [Rv.p, List.getD_eq_getElem?_getD, hil]
            have hym : y ∈ V.chain := HXS.out y (by rw [hy]; exact List.getElem_mem hil)
            obtain ⟨q1, q2, -⟩ := HH.out.links y hym
            have hun := unshut_any (keyN n p) y.b y.x w2 (p61_64 (keyN_lt _ _)) q2 (q1.ext he12)
            have HUN := Lib.hid hun
            have HQ : Hid (v = if fitsL (keyN n p) y.x.l && okL (keyN n p) y.x.l then .tuple #[.string (textB (keyN n p) y.x.l), .int .i64 ((i + 1 : Nat) : Int), .int .i64 0] else .tuple #[.string ⟨#[]⟩, .int .i64 0, .int .i64 112]) := by
              rw [Hid, HV.out]
              exact openR_4 HT0.out HEV.out HNG.out (i + 1) (by rw [if_neg (by simpa using T4)]; omega) y.l hyl
            clear hun q1 q2 hym hyl hy hg1
            go_wp2_with (fail)
            (with_reducible refine HUN.out.mono ?_); rintro e w3 ⟨rfl, he3⟩
            unfold unshV
            have he13 := he12.trans he3
            cases F1 : fitsL (keyN n p) y.x.l
            · have hq : Hid (v = .tuple #[.string ⟨#[]⟩, .int .i64 0, .int .i64 112]) := by rw [Hid, HQ.out, F1]; rfl
              go_wp2_with (fail)
              go_ret3
              exact ⟨by rw [hq.out]; rfl, he13⟩
            · cases F2 : okL (keyN n p) y.x.l
              · have hq : Hid (v = .tuple #[.string ⟨#[]⟩, .int .i64 0, .int .i64 112]) := by rw [Hid, HQ.out, F1, F2]; rfl
                go_wp2_with (fail)
                go_ret3
                exact ⟨by rw [hq.out]; rfl, he13⟩
              · have hq : Hid (v = .tuple #[.string (textB (keyN n p) y.x.l), .int .i64 ((i + 1 : Nat) : Int), .int .i64 0]) := by rw [Hid, HQ.out, F1, F2]; rfl
                go_wp2_with (fail)
                go_ret3
                refine ⟨?_, he13⟩
                rw [hq.out]
                simp [textB]
          · have hz : ver = 0 := by simpa using T4
            subst hz
            obtain ⟨i, hi⟩ : ∃ i : Nat, x.ls.length = i + 1 := ⟨x.ls.length - 1, by omega⟩
            have hil : i < x.ls.length := by omega
            have hi1 : (i : Int) < (i : Int) + 1 := by omega
            have hi0 : (0 : Int) ≤ (i : Int) := by omega
            obtain ⟨g, hg1, hg2⟩ := row_at HROW.out i hil
            rw [hg1]
            replace hg2 := hg2 w2 (Ext.refl _)
            obtain ⟨y, hy⟩ : ∃ y, y = x.ls[i] := ⟨_, rfl⟩
            rw [← hy] at hg2
            have hyl : y.l = (recAt V.p n num).1.getD (i + 1 - 1) Lk.nil := by rw [HXL.out, hy]; simp [Rv.p, List.getD_eq_getElem?_getD, hil]
            have hym : y ∈ V.chain := HXS.out y (by rw [hy]; exact List.getElem_mem hil)
            obtain ⟨q1, q2, -⟩ := HH.out.links y hym
            have hun := unshut_any (keyN n p) y.b y.x w2 (p61_64 (keyN_lt _ _)) q2 (q1.ext he12)
            have HUN := Lib.hid hun
            have HQ : Hid (v = if fitsL (keyN n p) y.x.l && okL (keyN n p) y.x.l then .tuple #[.string (textB (keyN n p) y.x.l), .int .i64 ((i + 1 : Nat) : Int), .int .i64 0] else .tuple #[.string ⟨#[]⟩, .int .i64 0, .int .i64 112]) := by
              rw [Hid, HV.out]
              exact openR_4 HT0.out HEV.out HNG.out (i + 1) (by rw [if_pos rfl, HMM.out, hi]) y.l hyl
            clear hun q1 q2 hym hyl hy hg1
            rw [hi] at hx20 T3 ⊢
            have HI := Lib.hid hi
            clear hi hil HMM HXS HROW hx0
            try simp only [Nat.cast_add, Nat.cast_one] at T3 hx20 ⊢
            go_wp2_with (fail)
            (with_reducible refine HUN.out.mono ?_); rintro e w3 ⟨rfl, he3⟩
            unfold unshV
            have he13 := he12.trans he3
            cases F1 : fitsL (keyN n p) y.x.l
            · have hq : Hid (v = .tuple #[.string ⟨#[]⟩, .int .i64 0, .int .i64 112]) := by rw [Hid, HQ.out, F1]; rfl
              go_wp2_with (fail)
              go_ret3
              exact ⟨by rw [hq.out]; rfl, he13⟩
            · cases F2 : okL (keyN n p) y.x.l
              · have hq : Hid (v = .tuple #[.string ⟨#[]⟩, .int .i64 0, .int .i64 112]) := by rw [Hid, HQ.out, F1, F2]; rfl
                go_wp2_with (fail)
                go_ret3
                exact ⟨by rw [hq.out]; rfl, he13⟩
              · have hq : Hid (v = .tuple #[.string (textB (keyN n p) y.x.l), .int .i64 ((i + 1 : Nat) : Int), .int .i64 0]) := by rw [Hid, HQ.out, F1, F2]; rfl
                go_wp2_with (fail)
                go_ret3
                refine ⟨?_, he13⟩
                rw [hq.out]
                simp [textB]
        · have hq : Hid (v = .tuple #[.string ⟨#[]⟩, .int .i64 0, .int .i64 3]) := by
            simp at T3
            rw [Hid, HV.out, openR_3 HT0.out HEV.out (.inr (by rw [HMM.out]; exact T3))]
          go_wp2_with (fail)
          go_ret3
          exact ⟨by rw [hq.out]; rfl, he12⟩
      · have hq : Hid (v = .tuple #[.string ⟨#[]⟩, .int .i64 0, .int .i64 3]) := by
          simp at T2
          rw [Hid, HV.out, openR_3 HT0.out HEV.out (.inl T2)]
        go_wp2_with (fail)
        go_ret3
        exact ⟨by rw [hq.out]; rfl, he12⟩
    · have hev0 : ev ≠ 0 := by simpa using T1
      have hq : Hid (v = .tuple #[.string ⟨#[]⟩, .int .i64 0, .int .i64 ev]) := by rw [Hid, HV.out, openR_2 HT0.out (by rw [HEV.out]; exact hev0), HEV.out]
      clear hev0
      go_wp2_with (fail)
      go_ret3
      exact ⟨by rw [hq.out]; rfl, he12⟩
  · have hq : Hid (v = .tuple #[.string ⟨#[]⟩, .int .i64 0, .int .i64 (enterR V.p n p)]) := by rw [Hid, HV.out, openR_1 T0]
    rw [enterV_bad T0]
    have T : (enterR V.p n p != 0) = true := by simpa using T0
    clear T0
    generalize enterR V.p n p = r0 at *
    go_wp2_with (fail)
    go_ret3
    exact ⟨by rw [hq.out]; rfl, he1⟩
/-- What 'Open' gives. -/
def OpenV (S : PV) (n p : ByteArray) (num ver : Int) : Value := .tuple #[.string (openR S n p num ver).1, .int .i64 (openR S n p num ver).2.2]
set_option maxRecDepth 100000 in
set_option maxHeartbeats 4000000 in
theorem Open_any (V : Vw) (w : World) (h : VwAt w V V.chain) (hg : Good V.p) (n p : ByteArray) (num ver : Int) (hn : n.size ≤ maxLen) (hp : p.size ≤ maxLen) (h0 : -9223372036854775808 ≤ num) (h1 : num ≤ 9223372036854775807) (k0 : -9223372036854775808 ≤ ver) (k1 : ver ≤ 9223372036854775807) :
    Calls Try.prog 36 #[ptr V.vb, .string n, .string p, .int .i64 num, .int .i64 ver] w (Ret (OpenV V.p n p num ver) w) := by
  have ho := open_any V w h hg n p num ver hn hp h0 h1 k0 k1
  unfold openV at ho
  unfold OpenV
  generalize openR V.p n p num ver = r at *
  obtain ⟨r1, r2, r3⟩ := r
  simp only at ho ⊢
  have HO := Lib.hid ho
  clear ho h hg
  go_enter Try.func36, Try.ntmps36
  go_wp2_with (fail)
  (with_reducible refine HO.out.mono ?_); rintro e w1 ⟨rfl, he1⟩
  go_wp2_with (fail)
  go_ret2
  exact ⟨rfl, he1⟩
end Go.Proofs.Ytlahejakcgoheaa
end
section
/-
  Walk: Release.
-/
set_option linter.unusedVariables false
set_option linter.unusedSimpArgs false
namespace Go.Proofs.Ytlahejakcgoheaa
open Go.RowKit
def madeN (S : PV) (n : ByteArray) : Int := match S.find n with | none => 0 | some c => c.made
/-- The key of a share. -/
def shareK (sh : ByteArray) : Nat := hbs (nh 3) sh.data.toList
theorem shareK_lt (sh : ByteArray) : shareK sh < p61 := hbs_lt _ _ (nh_lt _)
def relE (S : PV) (n p : ByteArray) (num : Int) (tu sh : ByteArray) : Int :=
  if (openR S n p num 0).2.2 ≠ 0 then (openR S n p num 0).2.2 else if (S.find tu).isSome = false then 7 else if tu = n then 6 else if passB sh = false then 4 else if 20 ≤ madeN S n then 8 else 0
def relL0 (S : PV) (n p : ByteArray) (num : Int) (tu : ByteArray) : Lk := ⟨5, n, tu, num, (openR S n p num 0).2.1, S.day, 0, [], 0, 0⟩
def relL (S : PV) (n p : ByteArray) (num : Int) (tu sh : ByteArray) : Lk := sealedL (shareK sh) (relL0 S n p num tu) (openR S n p num 0).1.data.toList
def relS (S : PV) (n p : ByteArray) (num : Int) (tu sh : ByteArray) : PV := if relE S n p num tu sh = 0 then putS S (chained S (relL S n p num tu sh)) else S
theorem unpT_len (b : List UInt8) : (unpT b).length ≤ 2000 := by
  unfold unpT
  split
  · rename_i q
    unfold unpOk at q
    simp only [Bool.and_eq_true, decide_eq_true_eq] at q
    have := q.2.1
    simp; omega
  · simp
theorem openR_text (S : PV) (n p : ByteArray) (num ver : Int) : (openR S n p num ver).1.size ≤ 2000 := by
  unfold openR
  split
  · exact Nat.zero_le _
  · split
    · exact Nat.zero_le _
    · split
      · exact Nat.zero_le _
      · generalize (if ver = 0 then (recAt S n num).1.length else ver.toNat) = k
        generalize hl : ((recAt S n num).1.getD (k - 1) Lk.nil) = l
        have : (textB (keyN n p) l).size ≤ 2000 := unpT_len _
        simp only [hl]
        split
        · exact this
        · exact Nat.zero_le _
theorem rel_could {S : PV} {n p : ByteArray} {num : Int} {tu sh : ByteArray} (h : relE S n p num tu sh = 0) : couldB S (chained S (relL S n p num tu sh)) = true := by
  unfold relE at h
  split at h
  · rename_i q; exact absurd h q
  · rename_i q
    simp only [ne_eq, Decidable.not_not] at q
    split at h
    · omega
    · rename_i q2
      split at h
      · omega
      · rename_i q3
        split at h
        · omega
        · split at h
          · omega
          · rename_i q5
            obtain ⟨e1, e2, e3, e4⟩ := openR_num q
            rw [if_pos rfl] at e4
            obtain ⟨c, hf⟩ := enter_find e1
            have hr : recAt S n num = findR c num S.day := by unfold recAt; rw [hf]
            have hm : madeN S n = c.made := by unfold madeN; rw [hf]
            have hb := sealed_body (key := shareK sh) (l := relL0 S n p num tu) (t := (openR S n p num 0).1) (openR_text _ _ _ _ _)
            have f1 : (chained S (relL S n p num tu sh)).nu = num := rfl
            have f2 : (chained S (relL S n p num tu sh)).ve = (openR S n p num 0).2.1 := rfl
            have f3 : (chained S (relL S n p num tu sh)).ki = tu := rfl
            have f4 : (chained S (relL S n p num tu sh)).cu = n := rfl
            have f5 : (chained S (relL S n p num tu sh)).op = 5 := rfl
            rw [couldB_5 S (chained S (relL S n p num tu sh)) c (by rfl) (by omega) (by omega) (by omega) (by omega) hf ⟨rfl, hb⟩ (by rw [f1, ← hr]; exact e2)]
            rw [f1, f2, f3, f4, ← hr, e4]
            have : (S.find tu).isSome = true := by cases e : (S.find tu).isSome with
              | false => exact absurd e q2
              | true => rfl
            rw [this]
            simp [q3]; omega
theorem relL0_ok {S : PV} {n p : ByteArray} {num : Int} {tu : ByteArray} (hg : Good S) (ho : (openR S n p num 0).2.2 = 0) (hr : (recAt S n num).1.length ≤ 20) (hn : n.size ≤ maxLen) (ht : tu.size ≤ maxLen) (h0 : -9223372036854775808 ≤ num) (h1 : num ≤ 9223372036854775807) : LkOk (relL0 S n p num tu) := by
  have d0 := hg.ok.d0; have d1 := hg.ok.d1
  obtain ⟨-, -, -, e4⟩ := openR_num ho
  rw [if_pos rfl] at e4
  refine ⟨by simp [relL0], hn, ht, h0, h1, ?_, ?_, ?_, ?_, by simp [relL0], by simp [relL0], by simp [relL0], by simp [relL0], by simp [relL0]⟩
  · show -9223372036854775808 ≤ (openR S n p num 0).2.1; omega
  · show (openR S n p num 0).2.1 ≤ 9223372036854775807; omega
  · show -9223372036854775808 ≤ S.day; omega
  · show S.day ≤ 9223372036854775807; omega
theorem recAt_len {S : PV} (hg : Good S) (n : ByteArray) (num : Int) : (recAt S n num).1.length ≤ 20 := by
  unfold recAt
  cases hf : S.find n with
  | none => simp
  | some c =>
    have hc := hg.ok.cs c (find_mem hf).1
    simp only
    unfold findR
    split
    · simp
    · split
      · simp
      · rename_i q _
        simp only
        have hl : (num - 1).toNat < c.recs.length := by omega
        rw [List.getD_eq_getElem?_getD, List.getElem?_eq_getElem hl]
        exact (hc.rr _ (List.getElem_mem hl)).2
set_option maxRecDepth 100000 in
set_option maxHeartbeats 4000000 in
theorem rel_vw (V : Vw) (w : World) (h : VwAt w V V.chain) (hg : Good V.p) (n p : ByteArray) (num : Int) (tu sh : ByteArray) (hn : n.size ≤ maxLen) (hp : p.size ≤ maxLen) (hto : tu.size ≤ maxLen) (hsh : sh.size ≤ maxLen) (h0 : -9223372036854775808 ≤ num) (h1 : num ≤ 9223372036854775807) :
    Calls Try.prog 39 #[ptr V.vb, .string n, .string p, .int .i64 num, .string tu, .string sh] w (RetStep V.vb (relS V.p n p num tu sh) (foot V) (V.chain.flatMap lfoot) (.int .i64 (relE V.p n p num tu sh)) w) := by
  have hva : VaultAt w V.vb V.p (foot V) (V.chain.flatMap lfoot) := ⟨V, rfl, rfl, h, rfl, rfl⟩
  have hop := open_any V w h hg n p num 0 hn hp h0 h1 (by omega) (by omega)
  obtain ⟨c0, c1, c2, c3⟩ := obj_cells4 h.blk
  obtain ⟨pv, th, hlk, hth⟩ := look103 h hto
  have hps := fun W => isPass_any sh W hsh
  obtain ⟨r, hr⟩ : ∃ r, r = relE V.p n p num tu sh := ⟨_, rfl⟩
  obtain ⟨S', hS⟩ : ∃ S', S' = relS V.p n p num tu sh := ⟨_, rfl⟩
  have hbad : r ≠ 0 → S' = V.p := fun q => by rw [hS, relS, if_neg (by rw [← hr]; exact q)]
  have hfs : (V.p.find tu).isSome = th := by
    rw [findW_p]
    rcases hth with ⟨rfl, hf⟩ | ⟨c, rfl, rfl, hf⟩ <;> rw [hf] <;> rfl
  have hr2 : r = if (openR V.p n p num 0).2.2 ≠ 0 then (openR V.p n p num 0).2.2 else if th = false then 7 else if tu = n then 6 else if passB sh = false then 4 else if 20 ≤ madeN V.p n then 8 else 0 := by rw [hr, relE, hfs]
  have hok0 := fun q => relL0_ok (n := n) (p := p) (num := num) (tu := tu) hg q (recAt_len hg n num) hn hto h0 h1
  have htx := openR_text V.p n p num 0
  have hnum := fun q => (openR_num (S := V.p) (n := n) (p := p) (num := num) (ver := 0) q).1
  rw [← hS, ← hr]
  obtain ⟨ot, ov, oe, ho⟩ : ∃ ot ov oe, openR V.p n p num 0 = (ot, ov, oe) := ⟨_, _, _, rfl⟩
  have hl0 : relL0 V.p n p num tu = ⟨5, n, tu, num, ov, V.p.day, 0, [], 0, 0⟩ := by unfold relL0; rw [ho]
  have hll : relL V.p n p num tu sh = sealedL (shareK sh) (relL0 V.p n p num tu) ot.data.toList := by unfold relL; rw [ho]
  unfold openV at hop
  rw [ho] at hop hr2 hok0 htx hnum
  simp only at hop hr2 hok0 htx hnum
  have hfin : ∀ q : Int, q ≠ 0 → r = q → ∀ W, Ext w W → RetStep V.vb S' (foot V) (V.chain.flatMap lfoot) (.int .i64 r) w (.returned (.int .i64 q)) W := fun q q0 hq W he => by
    rw [hbad (by rw [hq]; exact q0), hq]
    exact RetStep.same hva he
  have HFIN := Lib.hid hfin
  have HV := Lib.hid hva; have HH := Lib.hid h; have HG := Lib.hid hg; have HR := Lib.hid hr; have HS := Lib.hid hS; have H0 := Lib.hid h0; have H1 := Lib.hid h1
  have HOP := Lib.hid hop; have HPS := Lib.hid hps; have HLK := Lib.hid hlk; have HR2 := Lib.hid hr2; have HOK0 := Lib.hid hok0; have HTX := Lib.hid htx; have HNUM := Lib.hid hnum; have HL0 := Lib.hid hl0; have HLL := Lib.hid hll; have HN := Lib.hid hn; have HSH := Lib.hid hsh
  have d1 := hg.ok.d1; have d0 := hg.ok.d0
  simp only [Vw.p] at d1 d0
  clear hva h hg hr hS hbad c2 c3 hop hps hlk hth hfs hr2 hok0 htx hnum hl0 hll hfin ho
  go_enter Try.func39, Try.ntmps39
  go_wp2_with (fail)
  (with_reducible refine HOP.out.mono ?_); rintro e w1 ⟨rfl, he1⟩
  cases T1 : (oe != 0)
  · have hoe : oe = 0 := by simpa using T1
    subst hoe
    have HR2 : Hid (r = if th = false then 7 else if tu = n then 6 else if passB sh = false then 4 else if 20 ≤ madeN V.p n then 8 else 0) := by rw [Hid, HR2.out, if_neg (by simp)]
    have hlk := HLK.out w1 he1
    have HC0 := Lib.hid c0; have HC1 := Lib.hid c1
    replace c0 := c0 w1 he1
    clear c1
    obtain ⟨c, hf⟩ := enterV_good (HNUM.out rfl)
    have hf := hf.1
    have HF := Lib.hid hf
    clear hf
    cases T2 : th
    · rw [T2] at HR2 hlk
      have hq : Hid (r = 7) := by rw [Hid, HR2.out, if_pos rfl]
      go_wp2_with (fail)
      go_ret
      exact HFIN.out 7 (by decide) hq.out _ he1
    · rw [T2, if_neg (by simp)] at HR2
      rw [T2] at hlk
      cases T3 : decide (tu = n)
      · have s2 := str_beq tu n
        rw [T3] at s2
        have hne : ¬ tu = n := by simpa using T3
        rw [if_neg hne] at HR2
        clear hne
        go_wp2_with (fail)
        (with_reducible refine (HPS.out _).mono ?_); rintro e w2 ⟨rfl, he2⟩
        have he12 := he1.trans he2
        cases T4 : passB sh
        · have hq : Hid (r = 4) := by rw [Hid, HR2.out, if_pos T4]
          go_wp2_with (fail)
          go_ret
          exact HFIN.out 4 (by decide) hq.out _ he12
        · rw [if_neg (by rw [T4]; simp)] at HR2
          have hlk2 := look103_yes (HH.out.ext he12) HN.out HF.out w2 (Ext.refl _) false
          simp only [Bool.false_eq_true, if_false] at hlk2
          obtain ⟨hcm, hcn⟩ := findW_mem HF.out
          obtain ⟨g0, g1, g2, g3, g4⟩ := obj_cells5 (HH.out.cus c hcm).blk
          replace g3 := g3 w2 he12
          have hmd : madeN V.p n = c.made := by unfold madeN; rw [findW_p, HF.out]; rfl
          have hm0 := (HG.out.ok.cs c.p (List.mem_map.2 ⟨c, hcm, rfl⟩)).m0
          have hm1 := (HG.out.ok.cs c.p (List.mem_map.2 ⟨c, hcm, rfl⟩)).m1
          simp only [Cw.p] at hm0 hm1
          rw [hmd] at HR2
          replace c0 := HC0.out w2 he12
          have c1 := HC1.out w2 he12
          clear hcm hcn g0 g1 g2 g4 hmd hlk
          cases T5 : decide (20 ≤ c.made)
          · have hq : Hid (r = 0) := by simp at T5; rw [Hid, HR2.out, if_neg (by omega)]
            clear h0 h1
            go_upto_region 13 with fail
            clear hlk2 g3 hm0 hm1
            go_upto_region 14 with fail
            generalize hw4 : World.alloc _ _ = w4
            obtain ⟨he4, o1, -⟩ := alloc1 hw4
            have o1s : w4.heap[w2.heap.size]? = some (.cells (lcells ⟨relL0 V.p n p num tu, none, 0⟩) 59 (0, 0)) := by
              rw [o1, HL0.out]; rfl
            have h34 := he12.trans he4
            have hok0 := HOK0.out (by trivial)
            have HLT := Lib.hid (lt_of_block o1)
            obtain ⟨e5, o5, -⟩ := bytesW_facts w4 sh HSH.out
            have hdg := digest_any 3 _ _ (bytesC w4 sh) _ o5.byts.1 (size_max HSH.out)
            rw [len_data] at hdg
            have hdg : Calls Try.prog 14 #[.int .u64 3, .slice (some ⟨w4.heap.size, 0, none⟩) sh.size (bytesC w4 sh)] (bytesW w4 sh) (Ret (u64 (shareK sh)) (bytesW w4 sh)) := hdg
            have HDG := Lib.hid hdg; have HE5 := Lib.hid e5; have HO1 := Lib.hid o1s; have HOK := Lib.hid hok0
            clear o1 o1s hok0 hw4 e5 o5 hdg c0 c1
            go_wp2_with (fail)
            (with_reducible refine HDG.out.mono ?_); rintro e w6 ⟨rfl, he6⟩
            have he46 := HE5.out.trans he6
            have o6 := he46.block HO1.out
            have h36 := h34.trans he46
            have hsh := shut_any (shareK sh) w2.heap.size (relL0 V.p n p num tu) ot w6 (p61_64 (shareK_lt _)) HOK.out rfl o6 HTX.out
            have HSHU := Lib.hid hsh; have HLT6 := Lib.hid (lt_of_block o6)
            clear hsh o6
            go_wp2_with (fail)
            with_reducible refine HSHU.out.mono ?_
            rintro e w5 ⟨rfl, ba, bc, hx, hla, hbc, hba⟩
            rw [← HLL.out] at hla hbc
            have hq5 : Calls Try.prog 65 #[ptr V.vb, ptr w2.heap.size] w5 (AddPost V ⟨w2.heap.size, ⟨relL V.p n p num tu sh, ba, bc⟩⟩ w) :=
              add_shut V w2.heap.size (relL V.p n p num tu sh) ba bc w w6 w5 HH.out HG.out h36 he12.size HLT6.out hx hla (by rw [HLL.out]; exact sealed_ok HOK.out HTX.out) hbc hba (by rw [HLL.out]; exact (sealed_body HTX.out).1) (rel_could (HR.out.symm.trans hq.out))
            have HQ5 := Lib.hid hq5
            clear hq5 hx hla hbc hba HSHU
            go_wp2_with (fail)
            with_reducible refine HQ5.out.mono ?_
            intro e w7 hpost
            have HP := Lib.hid hpost
            obtain rfl := hpost.1
            clear hpost
            go_wp2_with (fail)
            go_ret
            have := HP.out.step (.int .i64 r)
            rw [HS.out, relS, if_pos (HR.out.symm.trans hq.out)]
            rw [hq.out] at this ⊢
            exact this
          · have hq : Hid (r = 8) := by simp at T5; rw [Hid, HR2.out, if_pos T5]
            go_wp2_with (fail)
            go_ret
            exact HFIN.out 8 (by decide) hq.out _ he12
      · have s2 := str_beq tu n
        rw [T3] at s2
        have hne : tu = n := by simpa using T3
        have hq : Hid (r = 6) := by rw [Hid, HR2.out, if_pos hne]
        clear hne
        go_wp2_with (fail)
        go_ret
        exact HFIN.out 6 (by decide) hq.out _ he1
  · have hoe : oe ≠ 0 := by simpa using T1
    have hq : Hid (r = oe) := by rw [Hid, HR2.out, if_pos hoe]
    have HOE := Lib.hid hoe
    clear hoe
    go_wp2_with (fail)
    go_ret
    exact HFIN.out oe HOE.out hq.out _ he1
end Go.Proofs.Ytlahejakcgoheaa
end
section
/-
  Walk: Borrow.
-/
set_option linter.unusedVariables false
set_option linter.unusedSimpArgs false
namespace Go.Proofs.Ytlahejakcgoheaa
open Go.RowKit
/-- A share. -/
def shareOf (c : PC) (k : Int × ByteArray) : Option Lk := (c.shares.find? fun q => decide (q.1 = k)).map Prod.snd
def shareAt (S : PV) (fr : ByteArray) (k : Int × ByteArray) : Option Lk := match S.find fr with | none => none | some c => shareOf c k
/-- What 'Borrow' gives. -/
def borR (S : PV) (n p fr : ByteArray) (num : Int) (sh : ByteArray) : ByteArray × Int :=
  if enterR S n p ≠ 0 then (⟨#[]⟩, enterR S n p)
  else match shareAt S fr (num, n) with
    | none => (⟨#[]⟩, 7)
    | some l => if fitsL (shareK sh) l = false then (⟨#[]⟩, 110) else if (recAt S fr num).2 ≠ 0 then (⟨#[]⟩, (recAt S fr num).2) else if okL (shareK sh) l = false then (⟨#[]⟩, 112) else (textB (shareK sh) l, 0)
def borV (S : PV) (n p fr : ByteArray) (num : Int) (sh : ByteArray) : Value := .tuple #[.string (borR S n p fr num sh).1, .int .i64 (borR S n p fr num sh).2]
theorem borR_1 {S : PV} {n p fr : ByteArray} {num : Int} {sh : ByteArray} (h : enterR S n p ≠ 0) : borV S n p fr num sh = .tuple #[.string ⟨#[]⟩, .int .i64 (enterR S n p)] := by
  unfold borV borR; simp only [if_pos h]
theorem borR_2 {S : PV} {n p fr : ByteArray} {num : Int} {sh : ByteArray} (h : enterR S n p = 0) (h2 : shareAt S fr (num, n) = none) : borV S n p fr num sh = .tuple #[.string ⟨#[]⟩, .int .i64 7] := by
  unfold borV borR; simp only [if_neg (show ¬ enterR S n p ≠ 0 by simpa using h), h2]
theorem borR_3 {S : PV} {n p fr : ByteArray} {num : Int} {sh : ByteArray} (h : enterR S n p = 0) {l : Lk} (h2 : shareAt S fr (num, n) = some l) (h3 : fitsL (shareK sh) l = false) : borV S n p fr num sh = .tuple #[.string ⟨#[]⟩, .int .i64 110] := by
  unfold borV borR; simp only [if_neg (show ¬ enterR S n p ≠ 0 by simpa using h), h2, if_pos h3]
theorem borR_4 {S : PV} {n p fr : ByteArray} {num : Int} {sh : ByteArray} (h : enterR S n p = 0) {l : Lk} (h2 : shareAt S fr (num, n) = some l) (h3 : fitsL (shareK sh) l = true) (h4 : (recAt S fr num).2 ≠ 0) : borV S n p fr num sh = .tuple #[.string ⟨#[]⟩, .int .i64 (recAt S fr num).2] := by
  unfold borV borR; simp only [if_neg (show ¬ enterR S n p ≠ 0 by simpa using h), h2, if_neg (show ¬ fitsL (shareK sh) l = false by rw [h3]; simp), if_pos h4]
theorem borR_5 {S : PV} {n p fr : ByteArray} {num : Int} {sh : ByteArray} (h : enterR S n p = 0) {l : Lk} (h2 : shareAt S fr (num, n) = some l) (h3 : fitsL (shareK sh) l = true) (h4 : (recAt S fr num).2 = 0) (h5 : okL (shareK sh) l = false) : borV S n p fr num sh = .tuple #[.string ⟨#[]⟩, .int .i64 112] := by
  unfold borV borR; simp only [if_neg (show ¬ enterR S n p ≠ 0 by simpa using h), h2, if_neg (show ¬ fitsL (shareK sh) l = false by rw [h3]; simp), if_neg (show ¬ (recAt S fr num).2 ≠ 0 by simpa using h4), if_pos h5]
theorem borR_6 {S : PV} {n p fr : ByteArray} {num : Int} {sh : ByteArray} (h : enterR S n p = 0) {l : Lk} (h2 : shareAt S fr (num, n) = some l) (h3 : fitsL (shareK sh) l = true) (h4 : (recAt S fr num).2 = 0) (h5 : okL (shareK sh) l = true) : borV S n p fr num sh = .tuple #[.string (textB (shareK sh) l), .int .i64 0] := by
  unfold borV borR; simp only [if_neg (show ¬ enterR S n p ≠ 0 by simpa using h), h2, if_neg (show ¬ fitsL (shareK sh) l = false by rw [h3]; simp), if_neg (show ¬ (recAt S fr num).2 ≠ 0 by simpa using h4), if_neg (show ¬ okL (shareK sh) l = false by rw [h5]; simp)]
/-- A share in memory. -/
theorem look133 {w : World} {c : Cw} (h : CwAt w c) (num : Int) (n : ByteArray) (h0 : -9223372036854775808 ≤ num) (h1 : num ≤ 9223372036854775807) (hn : n.size ≤ maxLen) :
    ∃ pv th, (∀ W, Ext w W → (Instr.lookup 133 (.map (some c.sb)) (.agg #[.int .i64 num, .string n]) true).run Try.prog W = .ok (.tuple #[pv, .bool th]) W) ∧
      ((th = false ∧ shareOf c.p (num, n) = none) ∨ ∃ q ∈ c.shares, th = true ∧ pv = ptr q.2.b ∧ shareOf c.p (num, n) = some q.2.l) := by
  have hkey := key142 num n h0 h1 hn
  have hsp : shareOf c.p (num, n) = (c.shares.find? fun q => decide (q.1 = (num, n))).map fun q => q.2.l := by
    unfold shareOf Cw.p
    simp only [List.find?_map, Option.map_map]
    congr 1
  rw [hsp]
  cases hf : c.shares.find? fun q => decide (q.1 = (num, n)) with
  | none =>
    refine ⟨.pointer none, false, fun W e => ?_, .inl ⟨rfl, rfl⟩⟩
    have := (h.map.ext e).look_no law142 Try.underlying133 (zero74 W) hkey (fun p hp e2 => by
      obtain ⟨q, hq, rfl⟩ := List.mem_map.1 hp
      have := List.find?_eq_none.1 hf q hq
      simp at e2 this
      exact this (Prod.ext e2.1 e2.2)) true
    simpa using this
  | some q =>
    have hq := List.mem_of_find?_eq_some hf
    have he := List.find?_some hf
    simp only [decide_eq_true_eq] at he
    refine ⟨ptr q.2.b, true, fun W e => ?_, .inr ⟨q, hq, rfl, rfl, rfl⟩⟩
    have := (h.map.ext e).look_yes law142 Try.underlying133 hkey (v := ptr q.2.b) (List.mem_map.2 ⟨q, hq, by rw [he]⟩) true
    simpa using this
set_option maxRecDepth 100000 in
set_option maxHeartbeats 4000000 in
theorem bor_any (V : Vw) (w : World) (h : VwAt w V V.chain) (hg : Good V.p) (n p fr : ByteArray) (num : Int) (sh : ByteArray) (hn : n.size ≤ maxLen) (hp : p.size ≤ maxLen) (hfr : fr.size ≤ maxLen) (hsh : sh.size ≤ maxLen) (h0 : -9223372036854775808 ≤ num) (h1 : num ≤ 9223372036854775807) :
    Calls Try.prog 41 #[ptr V.vb, .string n, .string p, .string fr, .int .i64 num, .string sh] w (Ret (borV V.p n p fr num sh) w) := by
  have hen := enter_any V V.chain n p w h hn hp
  obtain ⟨c0, c1, c2, c3⟩ := obj_cells4 h.blk
  obtain ⟨v, hv⟩ : ∃ v, v = borV V.p n p fr num sh := ⟨_, rfl⟩
  obtain ⟨pv, th, hlk, hth⟩ := look103 h hfr
  rw [← hv]
  have HH := Lib.hid h; have HG := Lib.hid hg; have HV := Lib.hid hv; have H0 := Lib.hid h0; have H1 := Lib.hid h1
  have HEN := Lib.hid hen; have HN := Lib.hid hn; have HSH := Lib.hid hsh; have HLK := Lib.hid hlk; have HTH := Lib.hid hth
  clear h hg c2 c3 hv hen hlk hth
  go_enter Try.func41, Try.ntmps41
  go_wp2_with (fail)
  (with_reducible refine HEN.out.mono ?_); rintro e w1 ⟨rfl, he1⟩
  by_cases T0 : enterR V.p n p = 0
  · obtain ⟨c9, hf9, hev⟩ := enterV_good T0
    rw [hev]
    have HT0 := Lib.hid T0
    clear hev hf9 T0
    have hlk := HLK.out w1 he1
    have HC1 := Lib.hid c1
    replace c0 := c0 w1 he1
    clear c1
    rcases HTH.out with ⟨rfl, hf⟩ | ⟨c, rfl, rfl, hf⟩
    · have hq : Hid (v = .tuple #[.string ⟨#[]⟩, .int .i64 7]) := by
        rw [Hid, HV.out, borR_2 HT0.out]
        unfold shareAt; rw [findW_p, hf]; rfl
      clear hf
      go_wp2_with (fail)
      go_ret2
      exact ⟨by rw [hq.out]; rfl, he1⟩
    · obtain ⟨hcm, hcn⟩ := findW_mem hf
      have hcw := (HH.out.ext he1).cus c hcm
      obtain ⟨g0, g1, g2, g3, g4⟩ := obj_cells5 hcw.blk
      replace g4 := g4 w1 (Ext.refl _)
      obtain ⟨ps, ts, hls, hts⟩ := look133 hcw num n h0 h1 HN.out
      replace hls := hls w1 (Ext.refl _)
      have hsa : shareAt V.p fr (num, n) = shareOf c.p (num, n) := by unfold shareAt; rw [findW_p, hf]; rfl
      have hra : recAt V.p fr num = findR c.p num V.day := by unfold recAt; rw [findW_p, hf]; rfl
      have HSA := Lib.hid hsa; have HRA := Lib.hid hra; have HCM := Lib.hid hcm
      clear g0 g1 g2 g3 hcm hcn hcw hf hsa hra
      rcases hts with ⟨rfl, hs⟩ | ⟨q, hqm, rfl, rfl, hs⟩
      · have hq : Hid (v = .tuple #[.string ⟨#[]⟩, .int .i64 7]) := by
          rw [Hid, HV.out, borR_2 HT0.out (HSA.out.trans hs)]
        clear hs
        go_wp2_with (fail)
        go_ret2
        exact ⟨by rw [hq.out]; rfl, he1⟩
      · have HS := Lib.hid (HSA.out.trans hs)
        obtain ⟨l1, l2, -⟩ := HH.out.links q.2 (HH.out.shares c HCM.out q hqm)
        obtain ⟨e5, o5, -⟩ := bytesW_facts w1 sh HSH.out
        have hdg := digest_any 3 _ _ (bytesC w1 sh) _ o5.byts.1 (size_max HSH.out)
        rw [len_data] at hdg
        have hdg : Calls Try.prog 14 #[.int .u64 3, .slice (some ⟨w1.heap.size, 0, none⟩) sh.size (bytesC w1 sh)] (bytesW w1 sh) (Ret (u64 (shareK sh)) (bytesW w1 sh)) := hdg
        have hun := fun W (e : Ext w W) => unshut_any (shareK sh) q.2.b q.2.x W (p61_64 (shareK_lt _)) l2 (l1.ext e)
        have HDG := Lib.hid hdg; have HE5 := Lib.hid e5; have HUN := Lib.hid hun
        clear hs l1 l2 e5 o5 hdg hun hqm
        go_wp2_with (fail)
        (with_reducible refine HDG.out.mono ?_); rintro e w2 ⟨rfl, he2⟩
        have he12 := (he1.trans HE5.out).trans he2
        clear hls hlk c0 g4
        go_wp2_with (fail)
        (with_reducible refine (HUN.out _ he12).mono ?_); rintro e w3 ⟨rfl, he3⟩
        unfold unshV
        have he13 := he12.trans he3
        cases F1 : fitsL (shareK sh) q.2.x.l
        · have hq : Hid (v = .tuple #[.string ⟨#[]⟩, .int .i64 110]) := by rw [Hid, HV.out, borR_3 HT0.out HS.out F1]
          go_wp2_with (fail)
          go_ret2
          exact ⟨by rw [hq.out]; rfl, he13⟩
        · have c1 := HC1.out w3 he13
          obtain ⟨rv, ev, hfv, hfe, -⟩ := findV_parts c num V.day
          have hfd := find_vw V w w3 HH.out HG.out he13 c HCM.out num h0 h1
          rw [hfv] at hfd
          have hev : (recAt V.p fr num).2 = ev := by rw [HRA.out]; exact hfe
          have HFD := Lib.hid hfd; have HEV := Lib.hid hev
          clear hfv hfe hfd hev
          go_wp2_with (fail)
          (with_reducible refine HFD.out.mono ?_); rintro e w4 ⟨rfl, he4⟩
          have he14 := he13.trans he4
          clear c1
          cases T1 : (ev != 0)
          · have hev0 : ev = 0 := by simpa using T1
            subst hev0
            cases F2 : okL (shareK sh) q.2.x.l
            · have hq : Hid (v = .tuple #[.string ⟨#[]⟩, .int .i64 112]) := by rw [Hid, HV.out, borR_5 HT0.out HS.out F1 HEV.out F2]
              go_wp2_with (fail)
              go_ret2
              exact ⟨by rw [hq.out]; rfl, he14⟩
            · have hq : Hid (v = .tuple #[.string (textB (shareK sh) q.2.x.l), .int .i64 0]) := by rw [Hid, HV.out, borR_6 HT0.out HS.out F1 HEV.out F2]
              go_wp2_with (fail)
              go_ret2
              refine ⟨?_, he14⟩
              rw [hq.out]; rfl
          · have hev0 : ev ≠ 0 := by simpa using T1
            have hq : Hid (v = .tuple #[.string ⟨#[]⟩, .int .i64 ev]) := by rw [Hid, HV.out, borR_4 HT0.out HS.out F1 (by rw [HEV.out]; exact hev0), HEV.out]
            clear hev0
            go_wp2_with (fail)
            go_ret2
            exact ⟨by rw [hq.out]; rfl, he14⟩
  · have hq : Hid (v = .tuple #[.string ⟨#[]⟩, .int .i64 (enterR V.p n p)]) := by rw [Hid, HV.out, borR_1 T0]
    rw [enterV_bad T0]
    have T : (enterR V.p n p != 0) = true := by simpa using T0
    clear T0
    generalize enterR V.p n p = r0 at *
    go_wp2_with (fail)
    go_ret2
    exact ⟨by rw [hq.out]; rfl, he1⟩
end Go.Proofs.Ytlahejakcgoheaa
end
