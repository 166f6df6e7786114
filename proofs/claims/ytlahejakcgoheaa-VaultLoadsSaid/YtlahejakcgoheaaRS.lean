/-
  Walks of the reference: Enrol, Advance.
-/
import Derived.Test.YtlahejakcgoheaaRR
set_option linter.unusedVariables false
set_option linter.unusedSimpArgs false
namespace Go.Proofs.Ytlahejakcgoheaa
open Go.RowKit
set_option maxRecDepth 100000 in
set_option maxHeartbeats 4000000 in
theorem l49_10 {vb xb n c kn q : Nat} {al : Option Addr} {nm ps : ByteArray} {L : List Lk} {G0 : Option Addr → List Lv → Prop} {wb w0 : World} (HJ0 : Hid (JS wb w0 vb xb (.cells #[.bool false, .slice al n c] 40 (0, 0)) L G0 false false undef)) (HK : Hid (∀ W, Ext wb W → Calls Try.prog 17 #[.string nm, .string ps] W (Ret (u64 kn) W))) (HBY : Hid (∀ W, Ext wb W → Calls Try.prog 59 #[u64 kn, .int .i64 8] W (fun e w' => ∃ a' c', e = .returned (.slice a' 8 c') ∧ Ext W w' ∧ Byts w' a' (numB kn 8)))) (HD : Hid (∀ W, Ext wb W → ∀ a' c', Byts W a' (numB kn 8) → Calls Try.prog 15 #[.int .u64 2, .slice a' 8 c'] W (Ret (u64 q) W))) (HW : Hid (∀ W, Ext wb W → Calls Try.prog 78 #[.agg #[.bool false, .slice al n c], .agg #[.int .u8 1, .string nm, .string ⟨#[]⟩, .int .i64 0, .int .i64 0, .int .i64 0, .int .i64 0, .slice none 0 0, .int .u64 (q : Int), .int .u64 0]] W (RetV L G0 W))) {Q : Exit → Act → World → Prop} (aZ : Act) (hsz : aZ.tmps.size = 43) (o1 : aZ.tmps[1]?.getD undef = .string nm) (o2 : aZ.tmps[2]?.getD undef = .string ps) (o3 : aZ.tmps[3]?.getD undef = .pointer (some ⟨vb, 0, none⟩)) (o6 : aZ.tmps[6]?.getD undef = .pointer (some ⟨xb, 0, none⟩))
    (hend : ∀ (vs : Nat → Value) (w9 : World) (ls9 : Nat → Bool), (∀ j : Nat, j < 11 → ls9 j = true) → (JS wb w9 vb xb (.cells #[.bool false, .slice al n c] 40 (0, 0)) L G0 (ls9 8) (ls9 9) (vs 8)) → (vs 0 = .agg #[.bool false, .slice al n c]) → (vs 1 = .string nm) → (vs 2 = .string nm) → (vs 3 = .string ps) → (vs 4 = u64 kn) → (∃ a' c', vs 5 = .slice a' 8 c' ∧ Byts w9 a' (numB kn 8)) → (vs 6 = u64 q) → (vs 7 = .agg #[.int .u8 1, .string nm, .string ⟨#[]⟩, .int .i64 0, .int .i64 0, .int .i64 0, .int .i64 0, .slice none 0 0, .int .u64 (q : Int), .int .u64 0]) → (True) → (vs 10 = .int .i64 0) → Q .normal ((((((((((aZ.put (some 34) (vs 0)).put (some 35) (vs 1)).put (some 36) (vs 2)).put (some 37) (vs 3)).put (some 38) (vs 4)).put (some 39) (vs 5)).put (some 40) (vs 6)).put (some 41) (vs 7)).put (some 42) (vs 8)).put (some 7) (vs 10)) w9) : (regOf Try.f49 10).wp Try.prog Q aZ w0 := by
  conv => arg 2; whnf
  refine wp_region_said3 (fun i v wz => match i with
    | 0 => v = .agg #[.bool false, .slice al n c]
    | 1 => v = .string nm
    | 2 => v = .string nm
    | 3 => v = .string ps
    | 4 => v = u64 kn
    | 5 => ∃ a' c', v = .slice a' 8 c' ∧ Byts wz a' (numB kn 8)
    | 6 => v = u64 q
    | 7 => v = .agg #[.int .u8 1, .string nm, .string ⟨#[]⟩, .int .i64 0, .int .i64 0, .int .i64 0, .int .i64 0, .slice none 0 0, .int .u64 (q : Int), .int .u64 0]
    | 8 => True
    | 9 => True
    | _ => v = .int .i64 0) (fun ls vs wz => JS wb wz vb xb (.cells #[.bool false, .slice al n c] 40 (0, 0)) L G0 (ls 8) (ls 9) (vs 8)) (by kernel_rfl) (by kernel_rfl) (by rw [hsz]; kernel_rfl) ?_ ?_ ?_
  · exact (JS.any HJ0.out).ext (Ext.refl _).drew
  · refine ⟨?_, ?_, ?_, ?_, ?_, ?_, ?_, ?_, ?_, ?_, ?_, trivial⟩
    · intro ls vs a w1 hi hJ hold hdep K hK
      have q3 : a.tmps[3]?.getD undef = .pointer (some ⟨vb, 0, none⟩) := (hold 3 (by kernel_rfl)).trans o3
      rw [if_pos (by rfl)]
      clear hold hdep hend o1 o2 o3 o6
      have HJ := Lib.hid hJ
      clear hJ
      obtain ⟨z0, z1⟩ := obj_cells2 HJ.out.bv
      have E1 := Ext.refl w1
      go_simp
      exact hK _ _ (fun _ _ _ h => h) HJ.out rfl
    · intro ls vs a w1 hi hJ hold hdep K hK
      have q1 : a.tmps[1]?.getD undef = .string nm := (hold 1 (by kernel_rfl)).trans o1
      rw [if_pos (by rfl)]
      clear hold hdep hend o1 o2 o3 o6
      have HJ := Lib.hid hJ
      clear hJ
      go_simp
      exact hK _ _ (fun _ _ _ h => h) HJ.out rfl
    · intro ls vs a w1 hi hJ hold hdep K hK
      have q1 : a.tmps[1]?.getD undef = .string nm := (hold 1 (by kernel_rfl)).trans o1
      rw [if_pos (by rfl)]
      clear hold hdep hend o1 o2 o3 o6
      have HJ := Lib.hid hJ
      clear hJ
      go_simp
      exact hK _ _ (fun _ _ _ h => h) HJ.out rfl
    · intro ls vs a w1 hi hJ hold hdep K hK
      have q2 : a.tmps[2]?.getD undef = .string ps := (hold 2 (by kernel_rfl)).trans o2
      rw [if_pos (by rfl)]
      clear hold hdep hend o1 o2 o3 o6
      have HJ := Lib.hid hJ
      clear hJ
      go_simp
      exact hK _ _ (fun _ _ _ h => h) HJ.out rfl
    · intro ls vs a w1 hi hJ hold hdep K hK
      have q36 : a.tmps[36]?.getD undef = .string nm := (hdep 2 36 (by kernel_rfl) (by kernel_rfl)).2.1.trans (hdep 2 36 (by kernel_rfl) (by kernel_rfl)).2.2
      have q37 : a.tmps[37]?.getD undef = .string ps := (hdep 3 37 (by kernel_rfl) (by kernel_rfl)).2.1.trans (hdep 3 37 (by kernel_rfl) (by kernel_rfl)).2.2
      rw [if_pos (by rfl)]
      clear hold hdep hend o1 o2 o3 o6
      have HJ := Lib.hid hJ
      clear hJ
      have hx := HJ.out.x
      go_simp
      go_at_call 17
      (with_reducible refine (HK.out _ hx).mono ?_); rintro e w20 ⟨rfl, he⟩
      exact hK _ _ (fun j u _ h => by
            match j, h with
            | 0, h | 1, h | 2, h | 3, h | 4, h | 6, h | 7, h | 8, h | 9, h => exact h
            | 5, h => obtain ⟨a', c', h1, h2⟩ := h; exact ⟨a', c', h1, h2.ext he⟩
            | (n + 10), h => exact h) (HJ.out.ext he) rfl
    · intro ls vs a w1 hi hJ hold hdep K hK
      have q38 : a.tmps[38]?.getD undef = u64 kn := (hdep 4 38 (by kernel_rfl) (by kernel_rfl)).2.1.trans (hdep 4 38 (by kernel_rfl) (by kernel_rfl)).2.2
      rw [if_pos (by rfl)]
      clear hold hdep hend o1 o2 o3 o6
      have HJ := Lib.hid hJ
      clear hJ
      have hx := HJ.out.x
      go_simp
      go_at_call 59
      (with_reducible refine (HBY.out _ hx).mono ?_); rintro e w20 ⟨a', c', rfl, he, hb⟩
      exact hK _ _ (fun j u _ h => by
            match j, h with
            | 0, h | 1, h | 2, h | 3, h | 4, h | 6, h | 7, h | 8, h | 9, h => exact h
            | 5, h => obtain ⟨a', c', h1, h2⟩ := h; exact ⟨a', c', h1, h2.ext he⟩
            | (n + 10), h => exact h) (HJ.out.ext he) ⟨_, _, rfl, hb⟩
    · intro ls vs a w1 hi hJ hold hdep K hK
      obtain ⟨hl5, q39, p39⟩ := hdep 5 39 (by kernel_rfl) (by kernel_rfl)
      rw [if_pos (by rfl)]
      clear hold hdep hend o1 o2 o3 o6
      have HJ := Lib.hid hJ
      clear hJ
      have hx := HJ.out.x
      obtain ⟨a', c', k1, k2⟩ := p39
      rw [k1] at q39
      go_simp
      go_at_call 15
      (with_reducible refine (HD.out _ hx a' c' k2).mono ?_); rintro e w20 ⟨rfl, he⟩
      exact hK _ _ (fun j u _ h => by
            match j, h with
            | 0, h | 1, h | 2, h | 3, h | 4, h | 6, h | 7, h | 8, h | 9, h => exact h
            | 5, h => obtain ⟨a', c', h1, h2⟩ := h; exact ⟨a', c', h1, h2.ext he⟩
            | (n + 10), h => exact h) (HJ.out.ext he) rfl
    · intro ls vs a w1 hi hJ hold hdep K hK
      have q35 : a.tmps[35]?.getD undef = .string nm := (hdep 1 35 (by kernel_rfl) (by kernel_rfl)).2.1.trans (hdep 1 35 (by kernel_rfl) (by kernel_rfl)).2.2
      have q40 : a.tmps[40]?.getD undef = u64 q := (hdep 6 40 (by kernel_rfl) (by kernel_rfl)).2.1.trans (hdep 6 40 (by kernel_rfl) (by kernel_rfl)).2.2
      rw [if_pos (by rfl)]
      clear hold hdep hend o1 o2 o3 o6
      have HJ := Lib.hid hJ
      clear hJ
      go_simp
      exact hK _ _ (fun _ _ _ h => h) HJ.out rfl
    · intro ls vs a w1 hi hJ hold hdep K hK
      have q34 : a.tmps[34]?.getD undef = .agg #[.bool false, .slice al n c] := (hdep 0 34 (by kernel_rfl) (by kernel_rfl)).2.1.trans (hdep 0 34 (by kernel_rfl) (by kernel_rfl)).2.2
      have q41 : a.tmps[41]?.getD undef = .agg #[.int .u8 1, .string nm, .string ⟨#[]⟩, .int .i64 0, .int .i64 0, .int .i64 0, .int .i64 0, .slice none 0 0, .int .u64 (q : Int), .int .u64 0] := (hdep 7 41 (by kernel_rfl) (by kernel_rfl)).2.1.trans (hdep 7 41 (by kernel_rfl) (by kernel_rfl)).2.2
      rw [if_pos (by rfl)]
      clear hold hdep hend o1 o2 o3 o6
      have HJ := Lib.hid hJ
      clear hJ
      have hx := HJ.out.x
      have j1 := HJ.out
      have hi8 : ls 8 = false := hi
      rw [hi8] at j1
      go_simp
      go_at_call 78
      (with_reducible refine (HW.out _ hx).mono ?_); rintro e w20 hr
      obtain ⟨v, rfl, he, hj⟩ := j1.call hr
      exact hK _ _ (fun j u _ h => by
            match j, h with
            | 0, h | 1, h | 2, h | 3, h | 4, h | 6, h | 7, h | 8, h | 9, h => exact h
            | 5, h => obtain ⟨a', c', h1, h2⟩ := h; exact ⟨a', c', h1, h2.ext he⟩
            | (n + 10), h => exact h) hj trivial
    · intro ls vs a w1 hi hJ hold hdep K hK
      have q6 : a.tmps[6]?.getD undef = .pointer (some ⟨xb, 0, none⟩) := (hold 6 (by kernel_rfl)).trans o6
      obtain ⟨hl8, q42, p42⟩ := hdep 8 42 (by kernel_rfl) (by kernel_rfl)
      rw [if_pos (by rfl)]
      clear hold hdep hend o1 o2 o3 o6
      have HJ := Lib.hid hJ
      clear hJ
      have j1 := HJ.out
      have hi9 : ls 9 = false := hi
      rw [hl8, hi9] at j1
      obtain ⟨ra, rn, rc, hv, z0, z1, f1, hj, hoff⟩ := j1.store
      rw [hv] at q42
      go_simp
      refine hK undef _ (fun j u _ h => by
            match j, h with
            | 0, h | 1, h | 2, h | 3, h | 4, h | 6, h | 7, h | 8, h | 9, h => exact h
            | 5, h => obtain ⟨a', c', h1, h2⟩ := h; exact ⟨a', c', h1, hoff _ _ h2⟩
            | (n + 10), h => exact h) ?_ trivial
      show JS wb _ vb xb _ L G0 (ls 8) true (vs 8)
      rw [hl8]; exact hj
    · intro ls vs a w1 hi hJ hold hdep K hK
      rw [if_pos (by rfl)]
      clear hold hdep hend o1 o2 o3 o6
      have HJ := Lib.hid hJ
      clear hJ
      go_simp
      exact hK _ _ (fun _ _ _ h => h) HJ.out rfl
  · intro vs w9 ls9 hl9 hJ9 hφ
    have e0 := hφ 0 (by kernel_rfl)
    have e1 := hφ 1 (by kernel_rfl)
    have e2 := hφ 2 (by kernel_rfl)
    have e3 := hφ 3 (by kernel_rfl)
    have e4 := hφ 4 (by kernel_rfl)
    have e5 := hφ 5 (by kernel_rfl)
    have e6 := hφ 6 (by kernel_rfl)
    have e7 := hφ 7 (by kernel_rfl)
    have e8 := hφ 8 (by kernel_rfl)
    have e10 := hφ 10 (by kernel_rfl)
    have hq := hend vs w9 ls9 hl9 hJ9 e0 e1 e2 e3 e4 e5 e6 e7 e8 e10
    simp only [Act.put] at hq
    simp only [putAll, Act.put]
    exact hq
theorem enrolE_1 {S : PV} {n p : ByteArray} (h : nameB n = false) : enrolE S n p = 4 := by unfold enrolE; rw [if_pos (.inl h)]
theorem enrolE_2 {S : PV} {n p : ByteArray} (h : passB p = false) : enrolE S n p = 4 := by unfold enrolE; rw [if_pos (.inr h)]
theorem enrolE_3 {S : PV} {n p : ByteArray} (h1 : nameB n = true) (h2 : passB p = true) (h3 : ¬ S.find n = none) : enrolE S n p = 6 := by
  unfold enrolE
  have : (S.find n).isSome = true := by cases hf : S.find n with | none => exact absurd hf h3 | some c => rfl
  rw [if_neg (by simp [h1, h2]), if_pos this]
theorem enrolE_4 {S : PV} {n p : ByteArray} (h1 : nameB n = true) (h2 : passB p = true) (h3 : S.find n = none) : enrolE S n p = if 20 ≤ S.cus.length then 8 else 0 := by
  unfold enrolE
  rw [if_neg (by simp [h1, h2]), if_neg (by simp [h3])]
theorem enrolS_no {S : PV} {n p : ByteArray} {q : Int} (h : enrolE S n p = q) (h0 : q ≠ 0) : enrolS S n p = S := by unfold enrolS; rw [h, if_neg h0]
theorem enrolS_yes {S : PV} {n p : ByteArray} (h : enrolE S n p = 0) : (enrolS S n p).chain = S.chain ++ [chained S (enrolL n p)] := by unfold enrolS; rw [if_pos h, putS_chain]
/-- The vault as it came, stored in the cell of the result. -/
theorem same40 {w W : World} {X : Nat} {N : Bool} {a : Option Addr} {xs : List Lv} {n c : Nat} (h : Links w a xs) (ho : LksOk xs) (hn : n = xs.length) (e : Ext w W) (hX : w.heap.size ≤ X) (hb : W.heap[X]? = some (.cells #[.bool false, .slice none 0 0] 40 (0, 0))) :
    Ext w ((W.setCell ⟨X, 0, none⟩ (.bool N)).setCell ⟨X, 1, none⟩ (.slice a n c)) ∧ Links ((W.setCell ⟨X, 0, none⟩ (.bool N)).setCell ⟨X, 1, none⟩ (.slice a n c)) a xs :=
  ⟨set2_ext e hX _ _, (h.ext e).off (no8_40 hb) (set2_off W X _ _)⟩
theorem proof_lt (k : Nat) : proofN k < 18446744073709551616 := p61_64 (hbs_lt _ _ (nh_lt _))
set_option maxRecDepth 100000 in
set_option maxHeartbeats 4000000 in
theorem renrol_any (S : PV) (al : Option Addr) (xs : List Lv) (c : Nat) (nm ps : ByteArray) (w : World) (hR : RvAt w S al xs) (hn : nm.size ≤ 1000) (hp : ps.size ≤ 1000) :
    Calls Try.prog 49 #[rv false al xs.length c, .string nm, .string ps] w (RetVE (enrolS S nm ps).chain (Grow w al xs) (.int .i64 (enrolE S nm ps)) w) := by
  have hnm := fun W => rname_any nm W (by unfold maxLen; omega)
  have hps := fun W => rpass_any ps W (by unfold maxLen; omega)
  have hcu := hR.cus false c nm
  obtain ⟨b1, hb1⟩ : ∃ b, b = nameB nm := ⟨_, rfl⟩
  obtain ⟨b2, hb2⟩ : ∃ b, b = passB ps := ⟨_, rfl⟩
  obtain ⟨at0, hat⟩ : ∃ z, z = cusAt nm S.chain := ⟨_, rfl⟩
  obtain ⟨cn, hcn⟩ : ∃ z, z = S.cus.length := ⟨_, rfl⟩
  obtain ⟨n, hnn⟩ : ∃ z, z = xs.length := ⟨_, rfl⟩
  have hat2 := hR.good.said.at nm
  have hcl := hR.good.ok.cl
  rw [← hb1] at hnm; rw [← hb2] at hps; rw [← hat] at hcu hat2; rw [← hcn] at hcu hcl; rw [← hnn] at hcu ⊢
  have HNM := Lib.hid hnm; have HPS := Lib.hid hps; have HCU := Lib.hid hcu; have HR := Lib.hid hR; have HB1 := Lib.hid hb1; have HB2 := Lib.hid hb2; have HAT := Lib.hid hat2; have HCN := Lib.hid hcn; have HN := Lib.hid hnn
  have hN := Lib.hid hn; have hP := Lib.hid hp
  clear hnm hps hcu hb1 hb2 hat hat2 hcn hnn hR hn hp
  go_enter Try.func49, Try.ntmps49
  go_upto_region 1 with fail
  generalize hw1 : World.alloc _ _ = w1
  obtain ⟨he, o1, o2, hs1⟩ := alloc2 hw1
  have O1 := Lib.hid o1; have O2 := Lib.hid o2; have HE := Lib.hid he
  obtain ⟨v0, v1⟩ := obj_cells2 o1
  obtain ⟨z0, z1⟩ := obj_cells2 o2
  have f1 := obj_free o2
  have E1 := Ext.refl w1
  clear hw1 o1 o2
  have hend : ∀ (W : World) (q : Int), Ext w1 W → enrolE S nm ps = q → q ≠ 0 → RetVE (enrolS S nm ps).chain (Grow w al xs) (.int .i64 (enrolE S nm ps)) w (.returned (.tuple #[rv false al n c, .int .i64 q])) ((W.setCell ⟨w.heap.size + 1, 0, none⟩ (.bool false)).setCell ⟨w.heap.size + 1, 1, none⟩ (.slice al n c)) := fun W q e hq h0 => by
    obtain ⟨k1, k2⟩ := same40 (N := false) (c := c) HR.out.lk HR.out.ok HN.out (HE.out.trans e) (by omega) (e.block O2.out)
    rw [enrolS_no hq h0, hq]
    exact ⟨al, c, xs, by rw [HN.out], k1, k2, HR.out.ok, HR.out.ch, Grow.same _ _ _⟩
  have HEND := Lib.hid hend
  clear hend
  go_wp2_with (fail)
  (with_reducible refine (HNM.out _).mono ?_); rintro e w2 ⟨rfl, he2⟩
  cases b1
  · go_wp2_with (fail)
    refine bodyPost_ret (v := .tuple #[rv false al n c, .int .i64 4]) (by simp [results, Try.results49, go_sem, z0 _ he2, z1 _ he2]) rfl (HEND.out w2 4 he2 (enrolE_1 HB1.out.symm) (by omega))
  · go_wp2_with (fail)
    (with_reducible refine (HPS.out _).mono ?_); rintro e w3 ⟨rfl, he3⟩
    have he13 := he2.trans he3
    cases b2
    · go_wp2_with (fail)
      refine bodyPost_ret (v := .tuple #[rv false al n c, .int .i64 4]) (by simp [results, Try.results49, go_sem, z0 _ he13, z1 _ he13]) rfl (HEND.out w3 4 he13 (enrolE_2 HB2.out.symm) (by omega))
    · go_wp2_with (fail)
      (with_reducible refine (HCU.out _ (HE.out.trans he13)).mono ?_); rintro e w4 ⟨rfl, he4⟩
      have he14 := he13.trans he4
      have E4 := Ext.refl w4
      clear he2 he3 he13 he4
      by_cases hge : 0 ≤ at0
      · have hq : Hid (¬ S.find nm = none) := fun e => by have := HAT.out.2 e; omega
        go_wp2_with (fail)
        refine bodyPost_ret (v := .tuple #[rv false al n c, .int .i64 6]) (by simp [results, Try.results49, go_sem, z0 _ he14, z1 _ he14]) rfl (HEND.out w4 6 he14 (enrolE_3 HB1.out.symm HB2.out.symm hq.out) (by omega))
      · have hq : Hid (S.find nm = none) := HAT.out.1 (by omega)
        have h4 := enrolE_4 HB1.out.symm HB2.out.symm hq.out
        rw [← HCN.out] at h4
        by_cases h20 : 20 ≤ cn
        · rw [if_pos h20] at h4
          have H4 := Lib.hid h4
          have h20' : (20 : Int) ≤ (cn : Int) := by omega
          clear h4
          go_wp2_with (fail)
          refine bodyPost_ret (v := .tuple #[rv false al n c, .int .i64 8]) (by simp [results, Try.results49, go_sem, z0 _ he14, z1 _ he14]) rfl (HEND.out w4 8 he14 H4.out (by omega))
        · rw [if_neg h20] at h4
          have hch := enrolS_yes h4
          have H4 := Lib.hid h4; have HCHN := Lib.hid hch
          have h20' : ¬ (20 : Int) ≤ (cn : Int) := by omega
          have HJ0 := Lib.hid (JS.start (L := S.chain ++ [chained S (enrolL nm ps)]) (G := Grow w al xs) (HE.out.trans he14) (show w.heap.size ≤ w.heap.size + 1 by omega) (show w.heap.size ≠ w.heap.size + 1 by omega) (he14.block O1.out) (he14.block O2.out) undef)
          have HK : Hid (∀ W, Ext w W → Calls Try.prog 17 #[.string nm, .string ps] W (Ret (u64 (keyN nm ps)) W)) := fun W e => rkey_any nm ps W (by have := hN.out; omega) (by have := hP.out; omega)
          have hk64 : keyN nm ps < 18446744073709551616 := p61_64 (keyN_lt _ _)
          have HBY : Hid (∀ W, Ext w W → Calls Try.prog 59 #[u64 (keyN nm ps), .int .i64 8] W (fun e w' => ∃ a' c', e = .returned (.slice a' 8 c') ∧ Ext W w' ∧ Byts w' a' (numB (keyN nm ps) 8))) := fun W e =>
            (rbytes_any (keyN nm ps) 8 W hk64 (by omega)).mono fun e w' ⟨a', c', h1, h2, h3⟩ => ⟨a', c', by rw [h1, numB_len], h2, h3.byts.1⟩
          have HD : Hid (∀ W, Ext w W → ∀ a' c', Byts W a' (numB (keyN nm ps) 8) → Calls Try.prog 15 #[.int .u64 2, .slice a' 8 c'] W (Ret (u64 (proofN (keyN nm ps))) W)) := fun W e a' c' hb => by
            have := rdigest_any 2 a' (numB (keyN nm ps) 8) c' W hb (by rw [numB_len]; omega)
            rw [numB_len] at this
            exact this
          have HW : Hid (∀ W, Ext w W → Calls Try.prog 78 #[.agg #[.bool false, .slice al n c], .agg #[.int .u8 1, .string nm, .string ⟨#[]⟩, .int .i64 0, .int .i64 0, .int .i64 0, .int .i64 0, .slice none 0 0, .int .u64 ((proofN (keyN nm ps) : Nat) : Int), .int .u64 0]] W (RetV (S.chain ++ [chained S (enrolL nm ps)]) (Grow w al xs) W)) := fun W e => by
            have hlo : LkOk (enrolL nm ps) := ⟨by show 1 < 256; omega, by have := hN.out; show nm.size ≤ _; unfold maxLen; omega, by show 0 ≤ _; omega, by show -9223372036854775808 ≤ (0 : Int); omega, by show (0 : Int) ≤ _; omega, by show -9223372036854775808 ≤ (0 : Int); omega, by show (0 : Int) ≤ _; omega, by show -9223372036854775808 ≤ (0 : Int); omega, by show (0 : Int) ≤ _; omega, by show -9223372036854775808 ≤ (0 : Int); omega, by show (0 : Int) ≤ _; omega, by show 0 ≤ _; omega, proof_lt _, by show 0 < _; omega⟩
            have := HR.out.put false c ⟨enrolL nm ps, none, 0⟩ W e hlo ⟨hN.out, by show 0 ≤ _; omega, by show 0 ≤ _; omega⟩ (.inl rfl) (fun ad hd => (by cases hd))
            rw [← HN.out] at this
            exact this
          clear h4 hch he14 hk64
          go_upto_region 10 with fail
          refine l49_10 HJ0 HK HBY HD HW _ (by rfl) rfl rfl rfl rfl ?_
          intro vs w9 ls9 hl9 hJ9 e0 e1 e2 e3 e4 e5 e6 e7 e8 e10
          simp only [Act.put, List.setIfInBounds_toArray, List.set_cons_zero, List.set_cons_succ]
          rw [e0, e1, e2, e3, e4, e6, e7, e10]
          obtain ⟨ra, rc, ys, hv, h1, h2, h3, h6, h4⟩ := hJ9.ac (hl9 8 (by omega))
          have hb := h4 (hl9 9 (by omega))
          rw [hv]
          obtain ⟨y0, y1⟩ := obj_cells2 hb
          replace y0 := y0 w9 (Ext.refl _)
          replace y1 := y1 w9 (Ext.refl _)
          have HXX := Lib.hid hJ9.x; have HL1 := Lib.hid h1; have HL2 := Lib.hid h2; have HL3 := Lib.hid h3; have HL6 := Lib.hid h6
          obtain ⟨L, hL⟩ : ∃ L, L = ys.length := ⟨_, rfl⟩
          rw [← hL] at y1 ⊢
          have HLL := Lib.hid hL
          clear hJ9 hl9 e0 e1 e2 e3 e4 e5 e6 e7 e8 e10 hb h1 h2 h3 h4 h6 hv hL z0 z1 f1 v0 v1 E1 E4
          go_wp2_with (fail)
          refine bodyPost_ret (v := .tuple #[rv false ra L rc, .int .i64 0]) (by simp [results, Try.results49, go_sem, y0, y1]) rfl ⟨ra, rc, ys, by rw [HLL.out, H4.out], HXX.out, HL1.out, HL2.out, by rw [HL3.out, HCHN.out], HL6.out⟩
end Go.Proofs.Ytlahejakcgoheaa
