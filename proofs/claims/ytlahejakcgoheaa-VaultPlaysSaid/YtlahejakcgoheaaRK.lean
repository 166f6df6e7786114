/-
  Walks of the reference: sealKey.
-/
import Derived.Test.YtlahejakcgoheaaRJ
set_option linter.unusedVariables false
set_option linter.unusedSimpArgs false
namespace Go.Proofs.Ytlahejakcgoheaa
open Go.RowKit
set_option maxRecDepth 100000 in
set_option maxHeartbeats 4000000 in
theorem l95_law {bx un vn : Nat} {z : UInt8} {nu ve : Int} {nb vb : List UInt8} {w0 : World} (h0 : ∀ W, Ext w0 W → W.cell? ⟨bx, 0, none⟩ = some (.int .u8 ((z.toNat : Nat) : Int))) (h3 : ∀ W, Ext w0 W → W.cell? ⟨bx, 3, none⟩ = some (.int .i64 nu)) (h4 : ∀ W, Ext w0 W → W.cell? ⟨bx, 4, none⟩ = some (.int .i64 ve)) (HU : Hid (IntKind.u64.wrap nu = (un : Int))) (HV : Hid (IntKind.u64.wrap ve = (vn : Int))) (HNB : Hid (∀ W, Ext w0 W → Calls Try.prog 59 #[.int .u64 (un : Int), .int .i64 4] W (RetB nb W))) (HVB : Hid (∀ W, Ext w0 W → Calls Try.prog 59 #[.int .u64 (vn : Int), .int .i64 4] W (RetB vb W))) (hnl : nb.length ≤ 100) (hvl : vb.length ≤ 100) {Q : Exit → Act → World → Prop} (aZ : Act) (hsz : aZ.tmps.size = 30) (o3 : aZ.tmps[3]?.getD undef = .pointer (some ⟨bx, 0, none⟩))
    (hend : ∀ (vs : Nat → Value) (w9 : World) (ls9 : Nat → Bool), (∀ j : Nat, j < 14 → ls9 j = true) → (J95 w0 [z] nb vb w9 (ls9 2) (ls9 6) (ls9 7) (ls9 11) (ls9 12) (vs 2) (vs 6) (vs 7) (vs 11) (vs 12) ∧ (ls9 13 = true → ls9 12 = true ∧ vs 13 = vs 12)) → (vs 0 = .pointer (some ⟨bx, 0, none⟩)) → (vs 1 = .int .u8 ((z.toNat : Nat) : Int)) → (True) → (vs 3 = .pointer (some ⟨bx, 3, none⟩)) → (vs 4 = .int .i64 nu) → (vs 5 = .int .u64 (un : Int)) → (True) → (True) → (vs 8 = .pointer (some ⟨bx, 4, none⟩)) → (vs 9 = .int .i64 ve) → (vs 10 = .int .u64 (vn : Int)) → (True) → (True) → (True) → Q .normal ((((((((((((((aZ.put (some 6) (vs 0)).put (some 7) (vs 1)).put (some 8) (vs 2)).put (some 9) (vs 3)).put (some 10) (vs 4)).put (some 11) (vs 5)).put (some 12) (vs 6)).put (some 13) (vs 7)).put (some 14) (vs 8)).put (some 15) (vs 9)).put (some 16) (vs 10)).put (some 17) (vs 11)).put (some 18) (vs 12)).put (some 5) (vs 13)) w9) : (regOf Try.f95 1).wp Try.prog Q aZ w0 := by
  conv => arg 2; whnf
  refine wp_region_said3 (fun i v wz => match i with
    | 0 => v = .pointer (some ⟨bx, 0, none⟩)
    | 1 => v = .int .u8 ((z.toNat : Nat) : Int)
    | 2 => True
    | 3 => v = .pointer (some ⟨bx, 3, none⟩)
    | 4 => v = .int .i64 nu
    | 5 => v = .int .u64 (un : Int)
    | 6 => True
    | 7 => True
    | 8 => v = .pointer (some ⟨bx, 4, none⟩)
    | 9 => v = .int .i64 ve
    | 10 => v = .int .u64 (vn : Int)
    | 11 => True
    | 12 => True
    | _ => True) (fun ls vs wz => J95 w0 [z] nb vb wz (ls 2) (ls 6) (ls 7) (ls 11) (ls 12) (vs 2) (vs 6) (vs 7) (vs 11) (vs 12) ∧ (ls 13 = true → ls 12 = true ∧ vs 13 = vs 12)) (by kernel_rfl) (by kernel_rfl) (by rw [hsz]; kernel_rfl) ?_ ?_ ?_
  · exact ⟨J95.start (Ext.refl _).drew, fun e => (by cases e)⟩
  · refine ⟨?_, ?_, ?_, ?_, ?_, ?_, ?_, ?_, ?_, ?_, ?_, ?_, ?_, ?_, trivial⟩
    · intro ls vs a w1 hi hJ hold hdep K hK
      have q3 : a.tmps[3]?.getD undef = .pointer (some ⟨bx, 0, none⟩) := (hold 3 (by kernel_rfl)).trans o3
      rw [if_pos (by rfl)]
      clear hold hdep hend o3
      have HJ := Lib.hid hJ
      clear hJ
      go_simp
      exact hK _ _ (fun _ _ _ h => h) HJ.out rfl
    · intro ls vs a w1 hi hJ hold hdep K hK
      have q6 : a.tmps[6]?.getD undef = .pointer (some ⟨bx, 0, none⟩) := (hdep 0 6 (by kernel_rfl) (by kernel_rfl)).2.1.trans (hdep 0 6 (by kernel_rfl) (by kernel_rfl)).2.2
      rw [if_pos (by rfl)]
      clear hold hdep hend o3
      have HJ := Lib.hid hJ
      clear hJ
      have hz1 := HJ.out.1.x
      go_simp
      exact hK _ _ (fun _ _ _ h => h) HJ.out rfl
    · intro ls vs a w1 hi hJ hold hdep K hK
      have q7 : a.tmps[7]?.getD undef = .int .u8 ((z.toNat : Nat) : Int) := (hdep 1 7 (by kernel_rfl) (by kernel_rfl)).2.1.trans (hdep 1 7 (by kernel_rfl) (by kernel_rfl)).2.2
      rw [if_pos (by rfl)]
      clear hold hdep hend o3
      have HJ := Lib.hid hJ
      clear hJ
      go_simp
      obtain ⟨j1, j2⟩ := HJ.out
      have hi2 : ls 2 = false := hi
      rw [hi2] at j1
      exact hK _ _ (fun _ _ _ h => h) ⟨j1.put2 ((Ext.refl w1).alloc _) (own_lit1 w1 z), j2⟩ trivial
    · intro ls vs a w1 hi hJ hold hdep K hK
      have q3 : a.tmps[3]?.getD undef = .pointer (some ⟨bx, 0, none⟩) := (hold 3 (by kernel_rfl)).trans o3
      rw [if_pos (by rfl)]
      clear hold hdep hend o3
      have HJ := Lib.hid hJ
      clear hJ
      go_simp
      exact hK _ _ (fun _ _ _ h => h) HJ.out rfl
    · intro ls vs a w1 hi hJ hold hdep K hK
      have q9 : a.tmps[9]?.getD undef = .pointer (some ⟨bx, 3, none⟩) := (hdep 3 9 (by kernel_rfl) (by kernel_rfl)).2.1.trans (hdep 3 9 (by kernel_rfl) (by kernel_rfl)).2.2
      rw [if_pos (by rfl)]
      clear hold hdep hend o3
      have HJ := Lib.hid hJ
      clear hJ
      have hz1 := HJ.out.1.x
      go_simp
      exact hK _ _ (fun _ _ _ h => h) HJ.out rfl
    · intro ls vs a w1 hi hJ hold hdep K hK
      have q10 : a.tmps[10]?.getD undef = .int .i64 nu := (hdep 4 10 (by kernel_rfl) (by kernel_rfl)).2.1.trans (hdep 4 10 (by kernel_rfl) (by kernel_rfl)).2.2
      rw [if_pos (by rfl)]
      clear hold hdep hend o3
      have HJ := Lib.hid hJ
      clear hJ
      go_simp
      rw [HU.out]
      exact hK _ _ (fun _ _ _ h => h) HJ.out rfl
    · intro ls vs a w1 hi hJ hold hdep K hK
      have q11 : a.tmps[11]?.getD undef = .int .u64 (un : Int) := (hdep 5 11 (by kernel_rfl) (by kernel_rfl)).2.1.trans (hdep 5 11 (by kernel_rfl) (by kernel_rfl)).2.2
      rw [if_pos (by rfl)]
      clear hold hdep hend o3
      have HJ := Lib.hid hJ
      clear hJ
      go_simp
      obtain ⟨j1, j2⟩ := HJ.out
      have hi2 : ls 6 = false := hi
      rw [hi2] at j1
      go_at_call 59
      (with_reducible refine (HNB.out _ j1.x).mono ?_); rintro e w20 ⟨a', c', rfl, he, hb⟩
      exact hK _ _ (fun _ _ _ h => h) ⟨j1.put6 he hb, j2⟩ trivial
    · intro ls vs a w1 hi hJ hold hdep K hK
      obtain ⟨hl2, q8, p8⟩ := hdep 2 8 (by kernel_rfl) (by kernel_rfl)
      obtain ⟨hl6, q12, p12⟩ := hdep 6 12 (by kernel_rfl) (by kernel_rfl)
      clear hold hdep hend o3
      have HJ := Lib.hid hJ
      clear hJ
      obtain ⟨j1, j2⟩ := HJ.out
      have hi7 : ls 7 = false := hi
      rw [hl2, hl6, hi7] at j1
      obtain ⟨v', w', r1', r2'⟩ := j1.app7 (by simp; omega)
      refine step_app (by rfl) (.tmp 8) (.tmp 12) 23 (by rfl) _ _ (by simpa [Act.eval, Array.getD_eq_getD_getElem?] using q8) (by simpa [Act.eval, Array.getD_eq_getD_getElem?] using q12) (fun v3 w3 => v3 = v' ∧ w3 = w') ⟨_, _, r1', rfl, rfl⟩ ?_
      rintro v3 w3 ⟨rfl, rfl⟩
      refine hK _ _ (fun _ _ _ h => h) ⟨?_, j2⟩ trivial
      show J95 _ _ _ _ _ (ls 2) (ls 6) true (ls 11) (ls 12) (vs 2) (vs 6) v3 (vs 11) (vs 12)
      rw [hl2, hl6]; exact r2'
    · intro ls vs a w1 hi hJ hold hdep K hK
      have q3 : a.tmps[3]?.getD undef = .pointer (some ⟨bx, 0, none⟩) := (hold 3 (by kernel_rfl)).trans o3
      rw [if_pos (by rfl)]
      clear hold hdep hend o3
      have HJ := Lib.hid hJ
      clear hJ
      go_simp
      exact hK _ _ (fun _ _ _ h => h) HJ.out rfl
    · intro ls vs a w1 hi hJ hold hdep K hK
      have q14 : a.tmps[14]?.getD undef = .pointer (some ⟨bx, 4, none⟩) := (hdep 8 14 (by kernel_rfl) (by kernel_rfl)).2.1.trans (hdep 8 14 (by kernel_rfl) (by kernel_rfl)).2.2
      rw [if_pos (by rfl)]
      clear hold hdep hend o3
      have HJ := Lib.hid hJ
      clear hJ
      have hz1 := HJ.out.1.x
      go_simp
      exact hK _ _ (fun _ _ _ h => h) HJ.out rfl
    · intro ls vs a w1 hi hJ hold hdep K hK
      have q15 : a.tmps[15]?.getD undef = .int .i64 ve := (hdep 9 15 (by kernel_rfl) (by kernel_rfl)).2.1.trans (hdep 9 15 (by kernel_rfl) (by kernel_rfl)).2.2
      rw [if_pos (by rfl)]
      clear hold hdep hend o3
      have HJ := Lib.hid hJ
      clear hJ
      go_simp
      rw [HV.out]
      exact hK _ _ (fun _ _ _ h => h) HJ.out rfl
    · intro ls vs a w1 hi hJ hold hdep K hK
      have q16 : a.tmps[16]?.getD undef = .int .u64 (vn : Int) := (hdep 10 16 (by kernel_rfl) (by kernel_rfl)).2.1.trans (hdep 10 16 (by kernel_rfl) (by kernel_rfl)).2.2
      rw [if_pos (by rfl)]
      clear hold hdep hend o3
      have HJ := Lib.hid hJ
      clear hJ
      go_simp
      obtain ⟨j1, j2⟩ := HJ.out
      have hi2 : ls 11 = false := hi
      rw [hi2] at j1
      go_at_call 59
      (with_reducible refine (HVB.out _ j1.x).mono ?_); rintro e w20 ⟨a', c', rfl, he, hb⟩
      exact hK _ _ (fun _ _ _ h => h) ⟨j1.put11 he hb, j2⟩ trivial
    · intro ls vs a w1 hi hJ hold hdep K hK
      obtain ⟨hl7, q13, p13⟩ := hdep 7 13 (by kernel_rfl) (by kernel_rfl)
      obtain ⟨hl11, q17, p17⟩ := hdep 11 17 (by kernel_rfl) (by kernel_rfl)
      clear hold hdep hend o3
      have HJ := Lib.hid hJ
      clear hJ
      obtain ⟨j1, j2⟩ := HJ.out
      have hi12 : ls 12 = false := hi
      rw [hl7, hl11, hi12] at j1
      obtain ⟨v', w', r1', r2'⟩ := j1.app12 (by simp; omega)
      refine step_app (by rfl) (.tmp 13) (.tmp 17) 23 (by rfl) _ _ (by simpa [Act.eval, Array.getD_eq_getD_getElem?] using q13) (by simpa [Act.eval, Array.getD_eq_getD_getElem?] using q17) (fun v3 w3 => v3 = v' ∧ w3 = w') ⟨_, _, r1', rfl, rfl⟩ ?_
      rintro v3 w3 ⟨rfl, rfl⟩
      refine hK _ _ (fun _ _ _ h => h) ⟨?_, fun e => (by have := (j2 e).1; rw [hi12] at this; cases this)⟩ trivial
      show J95 _ _ _ _ _ (ls 2) (ls 6) (ls 7) (ls 11) true (vs 2) (vs 6) (vs 7) (vs 11) v3
      rw [hl7, hl11]; exact r2'
    · intro ls vs a w1 hi hJ hold hdep K hK
      obtain ⟨hl12, q18, p18⟩ := hdep 12 18 (by kernel_rfl) (by kernel_rfl)
      rw [if_pos (by rfl)]
      clear hold hdep hend o3
      have HJ := Lib.hid hJ
      clear hJ
      obtain ⟨j1, j2⟩ := HJ.out
      go_simp
      exact hK _ _ (fun _ _ _ h => h) ⟨j1, fun _ => ⟨hl12, rfl⟩⟩ trivial
  · intro vs w9 ls9 hl9 hJ9 hφ
    have e0 := hφ 0 (by kernel_rfl)
    have e1 := hφ 1 (by kernel_rfl)
    have e2 := hφ 2 (by kernel_rfl)
    have e3 := hφ 3 (by kernel_rfl)
    have e4 := hφ 4 (by kernel_rfl)
    have e5 := hφ 5 (by kernel_rfl)
    have e6 := hφ 6 (by kernel_rfl)
    have e7 := hφ 7 (by kernel_rfl)
    have e8 := hφ 8 (by kernel_rfl)
    have e9 := hφ 9 (by kernel_rfl)
    have e10 := hφ 10 (by kernel_rfl)
    have e11 := hφ 11 (by kernel_rfl)
    have e12 := hφ 12 (by kernel_rfl)
    have e13 := hφ 13 (by kernel_rfl)
    have hq := hend vs w9 ls9 hl9 hJ9 e0 e1 e2 e3 e4 e5 e6 e7 e8 e9 e10 e11 e12 e13
    simp only [Act.put] at hq
    simp only [putAll, Act.put]
    exact hq
set_option maxRecDepth 100000 in
set_option maxHeartbeats 4000000 in
theorem rsealKey_any (key : Nat) (x : Lv) (w : World) (ho : LkOk x.l) (hkb : x.l.ki.size ≤ 100000000000000) : Calls Try.prog 95 #[u64 key, lval x] w (Ret (u64 (sealK key x.l)) w) := by
  obtain ⟨z, hz⟩ : ∃ z : UInt8, z = UInt8.ofNat x.l.op := ⟨_, rfl⟩
  have hzo : z.toNat = x.l.op := by rw [hz, UInt8.toNat_ofNat']; exact Nat.mod_eq_of_lt ho.op
  have hsk : hbs (nh key) ([z] ++ numB (uw x.l.nu) 4 ++ numB (uw x.l.ve) 4) = sk0 key x.l := by
    rw [hbs_append, hbs_append, hbs_cons, hbs_nil, hzo]; rfl
  have HZO := Lib.hid hzo; have HSK := Lib.hid hsk; have HOK := Lib.hid ho
  have HNB : Hid (∀ W, Ext w W → Calls Try.prog 59 #[.int .u64 (uw x.l.nu : Int), .int .i64 4] W (RetB (numB (uw x.l.nu) 4) W)) := fun W e => rbytes_any _ 4 W (uw_lt _) (by omega)
  have HVB : Hid (∀ W, Ext w W → Calls Try.prog 59 #[.int .u64 (uw x.l.ve : Int), .int .i64 4] W (RetB (numB (uw x.l.ve) 4) W)) := fun W e => rbytes_any _ 4 W (uw_lt _) (by omega)
  have HU : Hid (IntKind.u64.wrap x.l.nu = (uw x.l.nu : Int)) := wrap_uw _
  have HV : Hid (IntKind.u64.wrap x.l.ve = (uw x.l.ve : Int)) := wrap_uw _
  have hnl : (numB (uw x.l.nu) 4).length ≤ 100 := by rw [numB_len]; omega
  have hvl : (numB (uw x.l.ve) 4).length ≤ 100 := by rw [numB_len]; omega
  clear hz hzo hsk ho
  go_enter Try.func95, Try.ntmps95
  go_upto_region 1 with fail
  generalize hw1 : World.alloc _ _ = w0
  obtain ⟨he, o1, -⟩ := alloc1 hw1
  obtain ⟨h0, d1, d2, h3, h4, d5, d6, d7, d8, d9⟩ := obj_cells10 o1
  rw [← HZO.out] at h0
  have HO1 := Lib.hid o1; have HE := Lib.hid he
  clear hw1 o1 d1 d5 d6 d7 d8 d9
  have HNB : Hid (∀ W, Ext w0 W → Calls Try.prog 59 #[.int .u64 (uw x.l.nu : Int), .int .i64 4] W (RetB (numB (uw x.l.nu) 4) W)) := fun W e => HNB.out W (HE.out.trans e)
  have HVB : Hid (∀ W, Ext w0 W → Calls Try.prog 59 #[.int .u64 (uw x.l.ve : Int), .int .i64 4] W (RetB (numB (uw x.l.ve) 4) W)) := fun W e => HVB.out W (HE.out.trans e)
  refine l95_law h0 h3 h4 HU HV HNB HVB hnl hvl _ (by rfl) rfl ?_
  intro vs w9 ls9 hl9 hJ9 e0 e1 e2 e3 e4 e5 e6 e7 e8 e9 e10 e11 e12 e13
  simp only [Act.put, List.setIfInBounds_toArray, List.set_cons_zero, List.set_cons_succ]
  rw [e0, e1, e3, e4, e5, e8, e9, e10]
  obtain ⟨hj1, hj2⟩ := hJ9
  have hown := hj1.a12 (hl9 12 (by omega))
  rw [(hj2 (hl9 13 (by omega))).2]
  obtain ⟨pre, hpre⟩ : ∃ pre, pre = [z] ++ numB (uw x.l.nu) 4 ++ numB (uw x.l.ve) 4 := ⟨_, rfl⟩
  have hpl : pre.length = 9 := by rw [hpre]; simp [numB_len]
  have hsk := HSK.out
  rw [← hpre] at hown hsk
  have HSK2 := Lib.hid hsk
  obtain ⟨a5, c5, h12⟩ := hown.slice
  rw [h12] at hown ⊢
  rw [hpl] at hown ⊢
  have HX := Lib.hid hj1.x; have HOWN := Lib.hid hown; have HPL := Lib.hid hpl
  have c0 := fun W (e : Ext w9 W) => h0 W (HX.out.trans e)
  have c2 := fun W (e : Ext w9 W) => d2 W (HX.out.trans e)
  rw [HZO.out] at c0
  have E9 := Ext.refl w9
  clear h0 d2 h3 h4 hj1 hj2 hown hpre hsk h12 e0 e1 e3 e4 e5 e8 e9 e10 hl9 HNB HVB hpl
  cases T1 : ((x.l.op : Int) == 5)
  · have hs : Hid (sealK key x.l = sk0 key x.l) := by
      have : ¬ x.l.op = 5 := by simp at T1; omega
      simp [Hid, sealK, this]
    have hdg : Calls Try.prog 15 #[u64 key, .slice a5 9 c5] w9 (Ret (u64 (sk0 key x.l)) w9) := by
      have := rdigest_any key a5 pre c5 w9 HOWN.out.byts.1 (by rw [HPL.out]; omega)
      rw [HPL.out, HSK2.out] at this; exact this
    have HDG := Lib.hid hdg
    clear hdg
    go_wp2_with (fail)
    (with_reducible refine HDG.out.mono ?_); rintro e w10 ⟨rfl, he10⟩
    go_wp2_with (fail)
    go_ret
    exact ⟨by rw [hs.out]; rfl, (HE.out.trans HX.out).trans he10⟩
  · have hs : Hid (sealK key x.l = hbs (sk0 key x.l) x.l.ki.data.toList) := by
      have : x.l.op = 5 := by simp at T1; omega
      simp [Hid, sealK, this]
    obtain ⟨e1, o1, z1⟩ := bytesW_facts w9 x.l.ki HOK.out.ki
    have hki : x.l.ki.size ≤ 9223372036854775807 := by have := HOK.out.ki; unfold maxLen at this; omega
    by_cases hbig : x.l.ki.size ≤ 100000000000000
    · have hap := app_bytes (bytesW w9 x.l.ki) w0.heap.size 23 (.slice a5 9 c5) pre x.l.ki.data.toList (some ⟨w9.heap.size, 0, none⟩) (bytesC w9 x.l.ki) (HOWN.out.ext e1) o1.byts.1 (by rw [HPL.out]; simp; omega) (by have := e1.size; have := HX.out.size; omega)
      rw [len_data] at hap
      have HAPP := Lib.hid hap; have HE1 := Lib.hid (HX.out.trans e1); have HLT := Lib.hid (HOWN.out.ext e1).lt
      clear hap e1 o1 z1
      go_wp2_with (first | (at_builtin; refine wpList_app _ rfl _ _ 23 rfl _ HAPP.out ?_; clear HAPP; rintro v' w10 ⟨ho5, hg5, -⟩; have he10 := grown_ext HE1.out hg5 (fun k hk => (HLT.out k hk).1); obtain ⟨a6, c6, rfl⟩ := ho5.slice; have hdg := rdigest_any key a6 (pre ++ x.l.ki.data.toList) c6 w10 ho5.byts.1 (by rw [List.length_append, HPL.out]; simp; omega); rw [hbs_append, HSK2.out] at hdg; obtain ⟨m2, hm2⟩ : ∃ m, m = (pre ++ x.l.ki.data.toList).length := ⟨_, rfl⟩; rw [← hm2] at hdg ⊢; have HDG := Lib.hid hdg; have HE10 := Lib.hid he10; clear hdg he10 ho5 hg5 hm2) | fail)
      (with_reducible refine HDG.out.mono ?_); rintro e w11 ⟨rfl, he11⟩
      go_wp2_with (fail)
      go_ret
      exact ⟨by rw [hs.out]; rfl, (HE.out.trans HE10.out).trans he11⟩
    · exact absurd hkb hbig
end Go.Proofs.Ytlahejakcgoheaa
