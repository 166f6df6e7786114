/-
  Texts merged: RE, RF, RG, RH.
-/
import Derived.Test.YtlahejakcgoheaaRA4
import Derived.Test.YtlahejakcgoheaaWL
section
/-
  Walks of the reference: enter.
-/
set_option linter.unusedVariables false
set_option linter.unusedSimpArgs false
namespace Go.Proofs.Ytlahejakcgoheaa
open Go.RowKit
set_option maxRecDepth 100000 in
set_option maxHeartbeats 4000000 in
theorem l79_law {b o k n c bx q kn tg : Nat} {nm ps : ByteArray} {w w0 : World} (HB0 : Hid (Ext w w0)) (hk0 : (0 : Int) ≤ (k : Int)) (hk1 : (k : Int) < (n : Int)) (h1 : ∀ W, Ext w W → W.cell? ⟨bx, 1, none⟩ = some (.slice (some ⟨b, o, none⟩) n c)) (h8 : ∀ W, Ext w W → W.cell? ⟨b, o + k * 10 + 8, none⟩ = some (.int .u64 (tg : Int))) (HK : Hid (∀ W, Ext w W → Calls Try.prog 17 #[.string nm, .string ps] W (Ret (u64 kn) W))) (HBY : Hid (∀ W, Ext w W → Calls Try.prog 59 #[u64 kn, .int .i64 8] W (fun e w' => ∃ a' c', e = .returned (.slice a' 8 c') ∧ Ext W w' ∧ Byts w' a' (numB kn 8)))) (HD : Hid (∀ W, Ext w W → ∀ a' c', Byts W a' (numB kn 8) → Calls Try.prog 15 #[.int .u64 2, .slice a' 8 c'] W (Ret (u64 q) W))) {Q : Exit → Act → World → Prop} (aZ : Act) (hsz : aZ.tmps.size = 31) (o1 : aZ.tmps[1]?.getD undef = .string nm) (o2 : aZ.tmps[2]?.getD undef = .string ps) (o3 : aZ.tmps[3]?.getD undef = .pointer (some ⟨bx, 0, none⟩)) (o7 : aZ.tmps[7]?.getD undef = .int .i64 k)
    (hend : ∀ (vs : Nat → Value) (w9 : World) (ls9 : Nat → Bool), (∀ j : Nat, j < 12 → ls9 j = true) → (Ext w0 w9) → (vs 0 = .pointer (some ⟨bx, 1, none⟩)) → (vs 1 = .slice (some ⟨b, o, none⟩) n c) → (vs 2 = .int .i64 k) → (vs 3 = .pointer (some ⟨b, o + k * 10, none⟩)) → (vs 4 = .pointer (some ⟨b, o + k * 10 + 8, none⟩)) → (vs 5 = .int .u64 (tg : Int)) → (vs 6 = .string nm) → (vs 7 = .string ps) → (vs 8 = u64 kn) → (∃ a' c', vs 9 = .slice a' 8 c' ∧ Byts w9 a' (numB kn 8)) → (vs 10 = u64 q) → (vs 11 = .bool ((tg : Int) != (q : Int))) → Q .normal ((((((((((((aZ.put (some 19) (vs 0)).put (some 20) (vs 1)).put (some 21) (vs 2)).put (some 22) (vs 3)).put (some 23) (vs 4)).put (some 24) (vs 5)).put (some 25) (vs 6)).put (some 26) (vs 7)).put (some 27) (vs 8)).put (some 28) (vs 9)).put (some 29) (vs 10)).put (some 30) (vs 11)) w9) : (regOf Try.f79 6).wp Try.prog Q aZ w0 := by
  conv => arg 2; whnf
  refine wp_region_said3 (fun i v wz => match i with
    | 0 => v = .pointer (some ⟨bx, 1, none⟩)
    | 1 => v = .slice (some ⟨b, o, none⟩) n c
    | 2 => v = .int .i64 k
    | 3 => v = .pointer (some ⟨b, o + k * 10, none⟩)
    | 4 => v = .pointer (some ⟨b, o + k * 10 + 8, none⟩)
    | 5 => v = .int .u64 (tg : Int)
    | 6 => v = .string nm
    | 7 => v = .string ps
    | 8 => v = u64 kn
    | 9 => ∃ a' c', v = .slice a' 8 c' ∧ Byts wz a' (numB kn 8)
    | 10 => v = u64 q
    | _ => v = .bool ((tg : Int) != (q : Int))) (fun ls vs wz => Ext w0 wz) (by kernel_rfl) (by kernel_rfl) (by rw [hsz]; kernel_rfl) ?_ ?_ ?_
  · exact (Ext.refl _).drew
  · refine ⟨?_, ?_, ?_, ?_, ?_, ?_, ?_, ?_, ?_, ?_, ?_, ?_, trivial⟩
    · intro ls vs a w1 hi hJ hold hdep K hK
      have q3 : a.tmps[3]?.getD undef = .pointer (some ⟨bx, 0, none⟩) := (hold 3 (by kernel_rfl)).trans o3
      rw [if_pos (by rfl)]
      clear hold hdep hend o1 o2 o3 o7
      go_simp
      exact hK _ _ (fun _ _ _ h => h) hJ rfl
    · intro ls vs a w1 hi hJ hold hdep K hK
      have q19 : a.tmps[19]?.getD undef = .pointer (some ⟨bx, 1, none⟩) := (hdep 0 19 (by kernel_rfl) (by kernel_rfl)).2.1.trans (hdep 0 19 (by kernel_rfl) (by kernel_rfl)).2.2
      rw [if_pos (by rfl)]
      clear hold hdep hend o1 o2 o3 o7
      have hz1 := HB0.out.trans hJ
      go_simp
      exact hK _ _ (fun _ _ _ h => h) hJ rfl
    · intro ls vs a w1 hi hJ hold hdep K hK
      have q7 : a.tmps[7]?.getD undef = .int .i64 k := (hold 7 (by kernel_rfl)).trans o7
      rw [if_pos (by rfl)]
      clear hold hdep hend o1 o2 o3 o7
      go_simp
      exact hK _ _ (fun _ _ _ h => h) hJ rfl
    · intro ls vs a w1 hi hJ hold hdep K hK
      have q20 : a.tmps[20]?.getD undef = .slice (some ⟨b, o, none⟩) n c := (hdep 1 20 (by kernel_rfl) (by kernel_rfl)).2.1.trans (hdep 1 20 (by kernel_rfl) (by kernel_rfl)).2.2
      have q21 : a.tmps[21]?.getD undef = .int .i64 k := (hdep 2 21 (by kernel_rfl) (by kernel_rfl)).2.1.trans (hdep 2 21 (by kernel_rfl) (by kernel_rfl)).2.2
      rw [if_pos (by rfl)]
      clear hold hdep hend o1 o2 o3 o7
      go_simp
      exact hK _ _ (fun _ _ _ h => h) hJ rfl
    · intro ls vs a w1 hi hJ hold hdep K hK
      have q22 : a.tmps[22]?.getD undef = .pointer (some ⟨b, o + k * 10, none⟩) := (hdep 3 22 (by kernel_rfl) (by kernel_rfl)).2.1.trans (hdep 3 22 (by kernel_rfl) (by kernel_rfl)).2.2
      rw [if_pos (by rfl)]
      clear hold hdep hend o1 o2 o3 o7
      go_simp
      exact hK _ _ (fun _ _ _ h => h) hJ rfl
    · intro ls vs a w1 hi hJ hold hdep K hK
      have q23 : a.tmps[23]?.getD undef = .pointer (some ⟨b, o + k * 10 + 8, none⟩) := (hdep 4 23 (by kernel_rfl) (by kernel_rfl)).2.1.trans (hdep 4 23 (by kernel_rfl) (by kernel_rfl)).2.2
      rw [if_pos (by rfl)]
      clear hold hdep hend o1 o2 o3 o7
      have hz1 := HB0.out.trans hJ
      go_simp
      exact hK _ _ (fun _ _ _ h => h) hJ rfl
    · intro ls vs a w1 hi hJ hold hdep K hK
      have q1 : a.tmps[1]?.getD undef = .string nm := (hold 1 (by kernel_rfl)).trans o1
      rw [if_pos (by rfl)]
      clear hold hdep hend o1 o2 o3 o7
      go_simp
      exact hK _ _ (fun _ _ _ h => h) hJ rfl
    · intro ls vs a w1 hi hJ hold hdep K hK
      have q2 : a.tmps[2]?.getD undef = .string ps := (hold 2 (by kernel_rfl)).trans o2
      rw [if_pos (by rfl)]
      clear hold hdep hend o1 o2 o3 o7
      go_simp
      exact hK _ _ (fun _ _ _ h => h) hJ rfl
    · intro ls vs a w1 hi hJ hold hdep K hK
      have q25 : a.tmps[25]?.getD undef = .string nm := (hdep 6 25 (by kernel_rfl) (by kernel_rfl)).2.1.trans (hdep 6 25 (by kernel_rfl) (by kernel_rfl)).2.2
      have q26 : a.tmps[26]?.getD undef = .string ps := (hdep 7 26 (by kernel_rfl) (by kernel_rfl)).2.1.trans (hdep 7 26 (by kernel_rfl) (by kernel_rfl)).2.2
      rw [if_pos (by rfl)]
      clear hold hdep hend o1 o2 o3 o7
      go_simp
      go_at_call 17
      (with_reducible refine (HK.out _ (HB0.out.trans hJ)).mono ?_); rintro e w20 ⟨rfl, he⟩
      exact hK _ _ (fun j u _ h => by
            match j, h with
            | 0, h | 1, h | 2, h | 3, h | 4, h | 5, h | 6, h | 7, h | 8, h | 10, h => exact h
            | 9, h => obtain ⟨a', c', h1, h2⟩ := h; exact ⟨a', c', h1, h2.ext he⟩
            | (n + 11), h => exact h) (hJ.trans he) rfl
    · intro ls vs a w1 hi hJ hold hdep K hK
      have q27 : a.tmps[27]?.getD undef = u64 kn := (hdep 8 27 (by kernel_rfl) (by kernel_rfl)).2.1.trans (hdep 8 27 (by kernel_rfl) (by kernel_rfl)).2.2
      rw [if_pos (by rfl)]
      clear hold hdep hend o1 o2 o3 o7
      go_simp
      go_at_call 59
      (with_reducible refine (HBY.out _ (HB0.out.trans hJ)).mono ?_); rintro e w20 ⟨a', c', rfl, he, hb⟩
      exact hK _ _ (fun j u _ h => by
            match j, h with
            | 0, h | 1, h | 2, h | 3, h | 4, h | 5, h | 6, h | 7, h | 8, h | 10, h => exact h
            | 9, h => obtain ⟨a', c', h1, h2⟩ := h; exact ⟨a', c', h1, h2.ext he⟩
            | (n + 11), h => exact h) (hJ.trans he) ⟨_, _, rfl, hb⟩
    · intro ls vs a w1 hi hJ hold hdep K hK
      obtain ⟨hl9, q28, p28⟩ := hdep 9 28 (by kernel_rfl) (by kernel_rfl)
      rw [if_pos (by rfl)]
      clear hold hdep hend o1 o2 o3 o7
      obtain ⟨a', c', k1, k2⟩ := p28
      rw [k1] at q28
      go_simp
      go_at_call 15
      (with_reducible refine (HD.out _ (HB0.out.trans hJ) a' c' k2).mono ?_); rintro e w20 ⟨rfl, he⟩
      exact hK _ _ (fun j u _ h => by
            match j, h with
            | 0, h | 1, h | 2, h | 3, h | 4, h | 5, h | 6, h | 7, h | 8, h | 10, h => exact h
            | 9, h => obtain ⟨a', c', h1, h2⟩ := h; exact ⟨a', c', h1, h2.ext he⟩
            | (n + 11), h => exact h) (hJ.trans he) rfl
    · intro ls vs a w1 hi hJ hold hdep K hK
      have q24 : a.tmps[24]?.getD undef = .int .u64 (tg : Int) := (hdep 5 24 (by kernel_rfl) (by kernel_rfl)).2.1.trans (hdep 5 24 (by kernel_rfl) (by kernel_rfl)).2.2
      have q29 : a.tmps[29]?.getD undef = u64 q := (hdep 10 29 (by kernel_rfl) (by kernel_rfl)).2.1.trans (hdep 10 29 (by kernel_rfl) (by kernel_rfl)).2.2
      rw [if_pos (by rfl)]
      clear hold hdep hend o1 o2 o3 o7
      go_simp
      exact hK _ _ (fun _ _ _ h => h) hJ rfl
  · intro vs w9 ls9 hl9 hJ9 hφ
    have e0 := hφ 0 (by kernel_rfl)
    have e1 := hφ 1 (by kernel_rfl)
    have e2 := hφ 2 (by kernel_rfl)
    have e3 := hφ 3 (by kernel_rfl)
    have e4 := hφ 4 (by kernel_rfl)
    have e5 := hφ 5 (by kernel_rfl)
    have e6 := hφ 6 (by kernel_rfl)
    have e7 := hφ 7 (by kernel_rfl)
    have e8 := hφ 8 (by kernel_rfl)
    have e9 := hφ 9 (by kernel_rfl)
    have e10 := hφ 10 (by kernel_rfl)
    have e11 := hφ 11 (by kernel_rfl)
    have hq := hend vs w9 ls9 hl9 hJ9 e0 e1 e2 e3 e4 e5 e6 e7 e8 e9 e10 e11
    simp only [Act.put] at hq
    simp only [putAll, Act.put]
    exact hq
theorem cusAt_lt (nm : ByteArray) (ls : List Lk) : -1 ≤ cusAt nm ls ∧ cusAt nm ls < ls.length := by
  have h : ∀ k, k ≤ ls.length → -1 ≤ cusAt nm (ls.take k) ∧ cusAt nm (ls.take k) < (k : Int) := by
    intro k
    induction k with
    | zero => intro _; simp [cusAt, cusF]
    | succ k ih =>
      intro hk
      have h1 := ih (by omega)
      have h2 := cusF_take nm k ls (by omega)
      unfold cusAt at h1 ⊢
      rw [List.take_succ_eq_append_getElem (by omega), cusF_snoc, h2]
      simp only
      split <;> omega
  have := h ls.length (Nat.le_refl _)
  rwa [List.take_length] at this
def rentE (N : Bool) (ls : List Lk) (nm ps : ByteArray) : Int :=
  if N then 1 else if cusAt nm ls < 0 then 7 else if ((ls.getD (cusAt nm ls).toNat Lk.nil).tag : Int) ≠ (proofN (keyN nm ps) : Int) then 110 else 0
set_option maxRecDepth 100000 in
set_option maxHeartbeats 1000000 in
theorem rent_any (N : Bool) (a : Option Addr) (xs : List Lv) (c : Nat) (nm ps : ByteArray) (w : World) (h : Links w a xs) (hl : xs.length ≤ 1000000) (hn : nm.size ≤ 1000000) (hp : ps.size ≤ 1000000) :
    Calls Try.prog 79 #[rv N a xs.length c, .string nm, .string ps] w (Ret (.int .i64 (rentE N (lks xs) nm ps)) w) := by
  have hcu := fun W (e : Ext w W) => rcus_any N a xs c nm W (h.ext e) hl
  have hlt := cusAt_lt nm (lks xs)
  rw [lks_len] at hlt
  obtain ⟨at0, hat⟩ : ∃ z, z = cusAt nm (lks xs) := ⟨_, rfl⟩
  obtain ⟨cn, hcn⟩ : ∃ z, z = cusN (lks xs) := ⟨_, rfl⟩
  obtain ⟨q, hq⟩ : ∃ q, q = rentE N (lks xs) nm ps := ⟨_, rfl⟩
  obtain ⟨n, hnn⟩ : ∃ n, n = xs.length := ⟨_, rfl⟩
  rw [← hat, ← hcn] at hcu
  rw [← hq]
  have hqq := hq
  unfold rentE at hqq
  rw [← hat] at hqq
  rw [← hat] at hlt
  have HQ := Lib.hid hqq; have HX := Lib.hid h; have HN := Lib.hid hnn
  rw [← hnn] at hcu hl hlt ⊢
  have HCU := Lib.hid hcu; have hn2 := hn; have hp2 := hp
  clear hcu hq hqq h hnn hat hcn
  go_enter Try.func79, Try.ntmps79
  go_upto_region 1 with fail
  generalize hw1 : World.alloc _ _ = w1
  obtain ⟨he, o1, -⟩ := alloc1 hw1
  obtain ⟨b0, b1⟩ := obj_cells2 o1
  clear hw1 o1
  have HE := Lib.hid he; have HB1 := Lib.hid b1
  have E1 := Ext.refl w1
  cases N
  · go_wp2_with (fail)
    (with_reducible refine (HCU.out _ he).mono ?_); rintro e w2 ⟨rfl, he2⟩
    clear HCU b0 b1 E1
    by_cases hneg : at0 < 0
    · have hr : Hid (q = 7) := by rw [Hid, HQ.out, if_neg (by simp), if_pos hneg]
      go_wp2_with (fail)
      go_ret
      exact ⟨by rw [hr.out]; rfl, he.trans he2⟩
    · obtain ⟨k, hk⟩ : ∃ k : Nat, at0 = (k : Int) := ⟨at0.toNat, by omega⟩
      subst hk
      have hkn : k < n := by omega
      obtain ⟨b, o, rfl, hc⟩ := HX.out.at k (by rw [← HN.out]; exact hkn)
      obtain ⟨x, hx⟩ : ∃ x, x = lth xs k := ⟨_, rfl⟩
      rw [← hx] at hc
      have HTG : Hid (((lks xs).getD k Lk.nil) = x.l) := by
        rw [Hid, hx, lth_eq _ _ (by rw [← HN.out]; exact hkn), List.getD_eq_getElem?_getD]
        simp [lks, show k < xs.length by rw [← HN.out]; exact hkn]
      have HB0 : Hid (Ext w1 w2) := he2
      have hk0 : (0 : Int) ≤ (k : Int) := by omega
      have hk1 : (k : Int) < (n : Int) := by omega
      have h8 : ∀ W, Ext w1 W → W.cell? ⟨b, o + k * 10 + 8, none⟩ = some (.int .u64 (x.l.tag : Int)) := fun W e => (hc W (HE.out.trans e)).2.2.2.2.2.2.2.2.1
      have h1 : ∀ W, Ext w1 W → W.cell? ⟨w.heap.size, 1, none⟩ = some (.slice (some ⟨b, o, none⟩) n c) := HB1.out
      have HK : Hid (∀ W, Ext w1 W → Calls Try.prog 17 #[.string nm, .string ps] W (Ret (u64 (keyN nm ps)) W)) := fun W e => rkey_any nm ps W hn2 hp2
      have hk64 : keyN nm ps < 18446744073709551616 := by
        have : keyN nm ps < p61 := by unfold keyN; first | exact hbs_lt _ _ (nh_lt _) | (repeat (first | exact hb_lt _ _ | apply hbs_lt | exact nh_lt _))
        exact p61_64 this
      have HBY : Hid (∀ W, Ext w1 W → Calls Try.prog 59 #[u64 (keyN nm ps), .int .i64 8] W (fun e w' => ∃ a' c', e = .returned (.slice a' 8 c') ∧ Ext W w' ∧ Byts w' a' (numB (keyN nm ps) 8))) := fun W e =>
        (rbytes_any (keyN nm ps) 8 W hk64 (by omega)).mono fun e w' ⟨a', c', h1, h2, h3⟩ => ⟨a', c', by rw [h1, numB_len], h2, h3.byts.1⟩
      have HD : Hid (∀ W, Ext w1 W → ∀ a' c', Byts W a' (numB (keyN nm ps) 8) → Calls Try.prog 15 #[.int .u64 2, .slice a' 8 c'] W (Ret (u64 (proofN (keyN nm ps))) W)) := fun W e a' c' hb => by
        have := rdigest_any 2 a' (numB (keyN nm ps) 8) c' W hb (by rw [numB_len]; omega)
        rw [numB_len] at this
        exact this
      clear hc hx hk64 HX
      go_upto_region 6 with fail
      refine l79_law HB0 hk0 hk1 h1 h8 HK HBY HD _ (by rfl) rfl rfl rfl rfl ?_
      intro vs w9 ls9 hl9 hJ9 e0 e1 e2 e3 e4 e5 e6 e7 e8 e9 e10 e11
      simp only [Act.put, List.setIfInBounds_toArray, List.set_cons_zero, List.set_cons_succ]
      rw [e0, e1, e2, e3, e4, e5, e6, e7, e8, e10, e11]
      cases T : ((x.l.tag : Int) != (proofN (keyN nm ps) : Int))
      · have hr : Hid (q = 0) := by
          rw [Hid, HQ.out, if_neg (by simp), if_neg (by omega), Int.toNat_natCast, HTG.out, if_neg]
          rw [bne_eq_false_iff_eq] at T; simpa using T
        go_wp2_with (fail)
        go_ret
        exact ⟨by rw [hr.out]; rfl, (HE.out.trans HB0.out).trans hJ9⟩
      · have hr : Hid (q = 110) := by
          rw [Hid, HQ.out, if_neg (by simp), if_neg (by omega), Int.toNat_natCast, HTG.out, if_pos]
          rw [bne_iff_ne] at T; exact T
        go_wp2_with (fail)
        go_ret
        exact ⟨by rw [hr.out]; rfl, (HE.out.trans HB0.out).trans hJ9⟩
  · have hr : Hid (q = 1) := by rw [Hid, HQ.out, if_pos rfl]
    go_wp2_with (fail)
    go_ret
    exact ⟨by rw [hr.out]; rfl, he⟩
set_option maxRecDepth 100000 in
set_option maxHeartbeats 1000000 in
theorem rgone_any (N : Bool) (a : Option Addr) (xs : List Lv) (c : Nat) (la : Option Addr) (ys : List Lv) (lc : Nat) (w : World) (h : Links w a xs) (ho : LksOk xs) (hl : xs.length ≤ 1000000) (hy : Links w la ys) (h0 : 0 < ys.length) :
    Calls Try.prog 83 #[rv N a xs.length c, .slice la ys.length lc] w (Ret (.bool (decide ((lth ys 0).l.un < dayL (lks xs)))) w) := by
  have hdy := fun W (e : Ext w W) => rday_any N a xs c W (h.ext e) ho hl
  obtain ⟨d, hd⟩ : ∃ d, d = dayL (lks xs) := ⟨_, rfl⟩
  obtain ⟨m, hm⟩ : ∃ m, m = advN (lks xs) := ⟨_, rfl⟩
  obtain ⟨n, hn⟩ : ∃ n, n = xs.length := ⟨_, rfl⟩
  obtain ⟨ny, hny⟩ : ∃ ny, ny = ys.length := ⟨_, rfl⟩
  obtain ⟨b, o, rfl, hc⟩ := hy.at 0 h0
  obtain ⟨x, hx⟩ : ∃ x, x = lth ys 0 := ⟨_, rfl⟩
  rw [← hx] at hc ⊢
  rw [← hny] at h0 ⊢
  rw [← hd, ← hm, ← hn] at hdy
  rw [← hd, ← hn]
  have HDY := Lib.hid hdy
  have hk1 : (0 : Int) < (ny : Int) := by omega
  have c6 : ∀ W, Ext w W → W.cell? ⟨b, o + 6, none⟩ = some (.int .i64 x.l.un) := fun W e => by
    have := (hc W e).2.2.2.2.2.2.1
    simpa using this
  have HC6 := Lib.hid c6
  clear hdy hd hm hn hny hc hx h ho hl hy c6
  go_enter Try.func83, Try.ntmps83
  go_upto_region 1 with fail
  generalize hw1 : World.alloc _ _ = w1
  obtain ⟨he, o1, -⟩ := alloc1 hw1
  obtain ⟨b0, b1⟩ := obj_cells2 o1
  clear hw1 o1
  have E1 := Ext.refl w1
  go_wp2_with (fail)
  (with_reducible refine (HDY.out _ he).mono ?_); rintro e w2 ⟨rfl, he2⟩
  have c6 := fun W (e : Ext w2 W) => HC6.out W ((he.trans he2).trans e)
  have E2 := Ext.refl w2
  clear HDY b0 b1 E1
  go_wp2_with (fail)
  go_ret
  exact ⟨rfl, he.trans he2⟩
end Go.Proofs.Ytlahejakcgoheaa
end
section
/-
  Walks of the reference: Versions.
-/
set_option linter.unusedVariables false
set_option linter.unusedSimpArgs false
namespace Go.Proofs.Ytlahejakcgoheaa
open Go.RowKit
def selV (nm : ByteArray) (num : Int) (l : Lk) : Bool := (((l.op : Int) == 3) || ((l.op : Int) == 4)) && (decide (l.cu = nm) && (l.nu == num))
def versL (nm : ByteArray) (num : Int) (ls : List Lk) : List Lk := ls.filter (selV nm num)
theorem versL_snoc (nm : ByteArray) (num : Int) (ls : List Lk) (l : Lk) : versL nm num (ls ++ [l]) = if ((((l.op : Int) == 3) || ((l.op : Int) == 4)) && (decide (l.cu = nm) && (l.nu == num))) = true then versL nm num ls ++ [l] else versL nm num ls := by
  unfold versL; rw [List.filter_append]
  by_cases h : selV nm num l = true
  · rw [if_pos (by exact h), List.filter_cons_of_pos h]; rfl
  · rw [if_neg (by exact h), List.filter_cons_of_neg h]; simp
/-- A row of links of one's own, made since w0; the Bodies lie in the memory of wb, which is older. -/
structure RowLs (wb w0 w : World) (v : Value) (xs : List Lv) : Prop where
  row : OwnL w w0.heap.size v xs
  bod : ∀ x ∈ xs, Byts wb x.ba x.l.bo ∧ LkOk x.l
  base : Ext wb w0
  old : Ext w0 w
theorem RowLs.ext {wb w0 w w' : World} {v : Value} {xs : List Lv} (h : RowLs wb w0 w v xs) (e : Ext w w') : RowLs wb w0 w' v xs := ⟨h.row.ext e, h.bod, h.base, h.old.trans e⟩
theorem RowLs.links {wb w0 w : World} {a : Option Addr} {n c : Nat} {xs : List Lv} (h : RowLs wb w0 w (.slice a n c) xs) : Links w a xs ∧ LksOk xs := by
  refine ⟨⟨?_, fun i hi => ?_⟩, fun i hi => ?_⟩
  · cases xs with
    | nil => exact .inl rfl
    | cons x0 xs0 =>
      obtain ⟨g, ha, -, -, -⟩ := OwnF.cell lcl_len h.row 0 (by simp)
      refine .inr ⟨g, 0, ha, fun i hi => ?_⟩
      obtain ⟨g', ha', -, -, hc⟩ := OwnF.cell lcl_len h.row i hi
      rw [ha] at ha'
      simp only [Option.some.injEq, Addr.mk.injEq, and_true] at ha'
      subst ha'
      rw [lth_eq _ _ hi, Nat.zero_add]
      exact ⟨hc 0 (by omega), hc 1 (by omega), hc 2 (by omega), hc 3 (by omega), hc 4 (by omega), hc 5 (by omega), hc 6 (by omega), hc 7 (by omega), hc 8 (by omega), hc 9 (by omega)⟩
  · rw [lth_eq _ _ hi]; exact (h.bod _ (List.getElem_mem hi)).1.ext (h.base.trans h.old)
  · rw [lth_eq _ _ hi]; exact (h.bod _ (List.getElem_mem hi)).2
theorem RowLs.slice {wb w0 w : World} {v : Value} {xs : List Lv} (h : RowLs wb w0 w v xs) : ∃ a c, v = .slice a xs.length c := by
  rcases h.row.2 with ⟨hv, hn⟩ | ⟨g, cap, cur, hv, -⟩
  · exact ⟨none, 0, by rw [hv, hn]⟩
  · exact ⟨_, _, hv⟩
theorem app_rowl (ty : TypeId) (wb w0 w : World) (v : Value) (xs : List Lv) (h : RowLs wb w0 w v xs) (x : Lv) (hx : Byts wb x.ba x.l.bo) (ho : LkOk x.l) (hn : xs.length ≤ 1000000) :
    ∃ v' w', (Builtin.append_ #[38, 38] ty #[v, .slice (some ⟨w.heap.size, 0, none⟩) 1 1]).run Try.prog (w.alloc (.cells (lcells x) 59)) = .ok v' w' ∧ RowLs wb w0 w' v' (xs ++ [x]) := by
  obtain ⟨i0, hi, hz0, hz1, hz2⟩ := info_parts info59
  have e0 := (Ext.refl w).alloc (.cells (lcells x) 59)
  have hs := h.old.size
  obtain ⟨v', w', r1, r2, r3, r4⟩ := app_struct 38 ty 59 lcl lcl_len lcl_one (by omega) Try.underlying38 hi hz0 hz1 hz2 rfl (by omega) (w.alloc (.cells (lcells x) 59)) w0.heap.size _ xs (h.row.ext e0) x w.heap.size (by rw [heap_new]; rfl) hn (by rw [heap_size]; omega)
  have e1 : Ext w0 w' := grown_ext (h.old.trans e0) r3 (fun k hk => (World.ownsRow.lt h.row k hk).1)
  refine ⟨v', w', r1, ⟨r2, fun y hy => ?_, h.base, e1⟩⟩
  rcases List.mem_append.1 hy with hy | hy
  · exact h.bod y hy
  · simp at hy; subst hy; exact ⟨hx, ho⟩
theorem ownL_mono {w : World} {B B' : Nat} {v : Value} {xs : List Lv} (h : OwnL w B v xs) (hb : B' ≤ B) : OwnL w B' v xs := by
  obtain ⟨h1, h2⟩ := h
  refine ⟨h1, ?_⟩
  rcases h2 with h2 | ⟨g, cap, cur, hv, hg, r⟩
  · exact .inl h2
  · exact .inr ⟨g, cap, cur, hv, Nat.le_trans hb hg, r⟩
theorem RowLs.down {wb w0 w : World} {v : Value} {xs : List Lv} (h : RowLs wb w0 w v xs) : RowLs wb wb w v xs := ⟨ownL_mono h.row h.base.size, h.bod, Ext.refl _, h.base.trans h.old⟩
set_option maxRecDepth 100000 in
set_option maxHeartbeats 4000000 in
theorem rvers_any (N : Bool) (a : Option Addr) (xs : List Lv) (c : Nat) (nm : ByteArray) (num : Int) (w : World) (h : Links w a xs) (ho : LksOk xs) (hl : xs.length ≤ 1000000) :
    Calls Try.prog 82 #[rv N a xs.length c, .string nm, .int .i64 num] w (fun e w' => ∃ la lc ys, e = .returned (.slice la ys.length lc) ∧ RowLs w w w' (.slice la ys.length lc) ys ∧ lks ys = versL nm num (lks xs)) := by
  obtain ⟨n, hn⟩ : ∃ n, n = xs.length := ⟨_, rfl⟩
  have HX := Lib.hid h; have HN := Lib.hid hn; have HO := Lib.hid ho
  rw [← hn] at hl ⊢
  clear h hn ho
  go_enter Try.func82, Try.ntmps82
  go_upto_region 1 with fail
  generalize hw1 : World.alloc _ _ = w1
  obtain ⟨he, o1, -⟩ := alloc1 hw1
  obtain ⟨b0, b1⟩ := obj_cells2 o1
  clear hw1 o1 b0
  have HB1 := Lib.hid b1; have HE := Lib.hid he
  clear b1
  go_upto_region 2 with fail
  generalize hw2 : World.alloc _ _ = w2
  obtain ⟨he2, o2, -⟩ := alloc1 hw2
  have hst : RowLs w w1 w2 (.slice (some ⟨w1.heap.size, 0, none⟩) 0 0) [] := ⟨by
    subst hw2
    exact own_empty w1 59 10, by simp, he, he2⟩
  have HST := Lib.hid hst; have HE2 := Lib.hid he2
  clear hw2 o2 hst he2
  go_wp2_with (fail)
  go_loopw [7, 8] (fun out i wr => ∃ k : Nat, k ≤ n ∧ i = .int .i64 k ∧ Hid (∃ ys, RowLs w w1 wr out ys ∧ lks ys = versL nm num ((lks xs).take k))) (fun _ i _ => n - (intOf i).toNat)
  case atStart => exact ⟨0, Nat.zero_le _, rfl, [], HST.out, rfl⟩
  case round =>
    obtain ⟨k, hk, rfl, hys⟩ := hrel
    obtain ⟨ys, hrow, hlk⟩ := hys.out
    have her : Hid (Ext w1 wr) := hrow.old
    have HROW := Lib.hid hrow; have HLK := Lib.hid hlk
    have E0 := Ext.refl wr
    have b1 := fun W (e : Ext wr W) => HB1.out W (her.out.trans e)
    clear hrow hlk hys
    by_cases hlt : k < n
    · have hlx : k < xs.length := by rw [← HN.out]; exact hlt
      have hbx := HX.out.2 k hlx
      have hox := HO.out k hlx
      have hts := take_snoc xs k hlx
      have hds := versL_snoc nm num ((lks xs).take k) (lth xs k).l
      rw [← hts] at hds
      obtain ⟨b, o, rfl, hc⟩ := HX.out.at k hlx
      have hcl := hc wr (HE.out.trans her.out)
      obtain ⟨x, hx⟩ : ∃ x, x = lth xs k := ⟨_, rfl⟩
      rw [← hx] at hds hcl hbx hox
      have hys1 : ys.length ≤ k := by
        rw [← lks_len, HLK.out]; unfold versL
        exact Nat.le_trans (List.length_filter_le _ _) (by rw [List.length_take]; omega)
      obtain ⟨c0, c1, c2, c3, c4, c5, c6, c7, c8, c9⟩ := hcl
      have HDS := Lib.hid hds; have HBX := Lib.hid hbx; have HOX := Lib.hid hox
      have hi0 : (0 : Int) ≤ (k : Int) := by omega
      have hi1 : (k : Int) < (n : Int) := by omega
      clear hc hts hds hx hbx hox
      go_upto_region 6 with fail
      clear c0 c1 c2 c3 c4 c5 c6 c7 c8 c9 b1 E0
      generalize hwa : World.alloc _ _ = wa
      obtain ⟨hea, oa, hsa⟩ := alloc1 hwa
      obtain ⟨d0, d1, d2, d3, d4, d5, d6, d7, d8, d9⟩ := obj_cells10 oa
      have Ea := Ext.refl wa
      have HEA := Lib.hid hea
      have hrow2 := HROW.out.ext hea
      have hap := app_rowl 38 w w1 wa u7 ys hrow2 x HBX.out HOX.out (by omega)
      have HAPP := Lib.hid hap; have HR2 := Lib.hid hrow2
      clear hwa oa hsa hea hap hrow2
      cases T1 : ((x.l.op : Int) == 3) <;> cases T2 : ((x.l.op : Int) == 4) <;> cases T3 : decide (x.l.cu = nm) <;> cases T4 : (x.l.nu == num)
      all_goals
        have hv := HDS.out
        rw [T1, T2, T3, T4] at hv
        simp only [Bool.or_true, Bool.or_false, Bool.true_or, Bool.and_true, Bool.and_false, Bool.true_and, Bool.false_and, if_true, if_false, reduceCtorEq] at hv
        have HV := Lib.hid hv
        have s2 := str_beq x.l.cu nm
        rw [T3] at s2
        clear hv
        go_wp2_with (first | (at_builtin; refine wpList_app _ rfl _ _ 38 rfl _ HAPP.out ?_; clear HAPP; rintro v' w5 hro; have HRO := Lib.hid hro; clear hro) | fail)
        first
        | exact ⟨⟨k + 1, by omega, by go_num, ys, HR2.out, by rw [HV.out]; exact HLK.out⟩, by simp [intOf]; omega⟩
        | exact ⟨⟨k + 1, by omega, by go_num, ys ++ [x], HRO.out, by rw [HV.out, ← HLK.out]; simp [lks]⟩, by simp [intOf]; omega⟩
    · obtain rfl : k = n := by omega
      have hend : Hid ((lks xs).take k = lks xs) := by rw [Hid, List.take_of_length_le (by rw [lks_len, HN.out]; exact Nat.le_refl _)]
      obtain ⟨a5, c5, rfl⟩ := HROW.out.slice
      go_wp2_with (fail)
      go_ret
      exact ⟨a5, c5, ys, rfl, HROW.out.down, by rw [HLK.out, hend.out]⟩
end Go.Proofs.Ytlahejakcgoheaa
end
section
/-
  Walks of the reference: Records, Shares' words.
-/
set_option linter.unusedVariables false
set_option linter.unusedSimpArgs false
namespace Go.Proofs.Ytlahejakcgoheaa
open Go.RowKit
set_option maxRecDepth 100000 in
set_option maxHeartbeats 4000000 in
theorem rrec_any (N : Bool) (a : Option Addr) (xs : List Lv) (c : Nat) (nm : ByteArray) (r : Nat) (w : World) (h : Links w a xs) (ho : LksOk xs) (hl : xs.length ≤ 1000000) (h1 : ∀ j, j < r → versL nm ((j : Int) + 1) (lks xs) ≠ []) (h2 : versL nm ((r : Int) + 1) (lks xs) = []) (hr : r ≤ 1000000) :
    Calls Try.prog 80 #[rv N a xs.length c, .string nm] w (Ret (.int .i64 r) w) := by
  have hv := fun (k : Nat) W (e : Ext w W) => rvers_any N a xs c nm ((k : Int) + 1) W (h.ext e) ho hl
  obtain ⟨n, hn⟩ : ∃ n, n = xs.length := ⟨_, rfl⟩
  rw [← hn] at hv ⊢
  have HV := Lib.hid hv; have H1 := Lib.hid h1; have H2 := Lib.hid h2
  clear h ho hl hn hv h1 h2
  go_enter Try.func80, Try.ntmps80
  go_upto_region 1 with fail
  generalize hw1 : World.alloc _ _ = w1
  obtain ⟨he, o1, -⟩ := alloc1 hw1
  obtain ⟨b0, b1⟩ := obj_cells2 o1
  clear hw1 o1
  have HB0 := Lib.hid b0; have HB1 := Lib.hid b1; have HE := Lib.hid he
  clear b0 b1
  go_wp2_with (fail)
  go_loopw [5] (fun i wr => ∃ k : Nat, k ≤ r ∧ i = .int .i64 k ∧ Hid (Ext w1 wr)) (fun i _ => r - (intOf i).toNat)
  case atStart => exact ⟨0, Nat.zero_le _, rfl, Ext.refl _⟩
  case round =>
    obtain ⟨k, hk, rfl, her⟩ := hrel
    have E0 := Ext.refl wr
    have b0 := fun W (e : Ext wr W) => HB0.out W (her.out.trans e)
    have b1 := fun W (e : Ext wr W) => HB1.out W (her.out.trans e)
    have hc := HV.out k wr (HE.out.trans her.out)
    have HC := Lib.hid hc
    clear hc
    go_wp2_with (fail)
    (with_reducible refine HC.out.mono ?_); rintro e w2 ⟨la, lc, ys, rfl, hro, hlk⟩
    have HRO := Lib.hid hro; have HLK := Lib.hid hlk
    obtain ⟨m, hm⟩ : ∃ m, m = ys.length := ⟨_, rfl⟩
    rw [← hm]
    have hm2 : m = (versL nm ((k : Int) + 1) (lks xs)).length := by rw [hm, ← hlk, lks_len]
    have HM := Lib.hid hm2
    clear hro hlk hm hm2 b0 b1 E0 HC
    by_cases hlt : k < r
    · have hpos : (0 : Int) < (m : Int) := by
        have := List.length_pos_iff.2 (H1.out k hlt)
        rw [← HM.out] at this; omega
      go_wp2_with (fail)
      go_roundw
      case rel => exact ⟨k + 1, by omega, by go_num, her.out.trans HRO.out.old⟩
      case measure => simp [intOf]; omega
    · obtain rfl : k = r := by omega
      have hz : m = 0 := by rw [HM.out, H2.out]; rfl
      subst hz
      go_wp2_with (fail)
      go_ret
      exact ⟨rfl, HE.out.trans (her.out.trans HRO.out.old)⟩
end Go.Proofs.Ytlahejakcgoheaa
end
section
/-
  Walks of the reference: Shares.
-/
set_option linter.unusedVariables false
set_option linter.unusedSimpArgs false
namespace Go.Proofs.Ytlahejakcgoheaa
open Go.RowKit
def madeL (fr : ByteArray) (ls : List Lk) : Nat := ls.foldl (fun n l => if (!((l.op : Int) != 5) && decide (l.cu = fr)) = true then n + 1 else n) 0
def lastL (fr : ByteArray) (num : Int) (tu : ByteArray) (ls : List Lk) : List Lk := ls.foldl (fun r l => if ((!((l.op : Int) != 5) && decide (l.cu = fr)) && ((l.nu == num) && decide (l.ki = tu))) = true then [l] else r) []
theorem madeL_snoc (fr : ByteArray) (ls : List Lk) (l : Lk) : madeL fr (ls ++ [l]) = if (!((l.op : Int) != 5) && decide (l.cu = fr)) = true then madeL fr ls + 1 else madeL fr ls := by
  unfold madeL; rw [List.foldl_append]; rfl
theorem lastL_snoc (fr : ByteArray) (num : Int) (tu : ByteArray) (ls : List Lk) (l : Lk) : lastL fr num tu (ls ++ [l]) = if ((!((l.op : Int) != 5) && decide (l.cu = fr)) && ((l.nu == num) && decide (l.ki = tu))) = true then [l] else lastL fr num tu ls := by
  unfold lastL; rw [List.foldl_append]; rfl
theorem madeL_le (fr : ByteArray) : ∀ (k : Nat) (ls : List Lk), madeL fr (ls.take k) ≤ k
  | 0, ls => by simp [madeL]
  | k + 1, ls => by
    by_cases h : k < ls.length
    · rw [List.take_succ_eq_append_getElem h, madeL_snoc]
      have := madeL_le fr k ls
      split <;> omega
    · rw [List.take_of_length_le (by omega)]
      have := madeL_le fr k ls
      rw [List.take_of_length_le (by omega)] at this
      omega
theorem lksOk_one {x : Lv} (h : LkOk x.l) : LksOk [x] := fun i hi => by
  obtain rfl : i = 0 := by simpa using hi
  exact h
theorem link_one {w : World} {x : Lv} (hx : Byts w x.ba x.l.bo) : Links (w.alloc (.cells (lcells x) 59)) (some ⟨w.heap.size, 0, none⟩) [x] := by
  have e := (Ext.refl w).alloc (.cells (lcells x) 59)
  obtain ⟨-, o1, -⟩ := alloc1 (rfl : w.alloc (.cells (lcells x) 59) = _)
  obtain ⟨c0, c1, c2, c3, c4, c5, c6, c7, c8, c9⟩ := obj_cells10 o1
  refine ⟨.inr ⟨_, 0, rfl, fun i hi => ?_⟩, fun i hi => ?_⟩
  · obtain rfl : i = 0 := by simpa using hi
    have hl : lth [x] 0 = x := rfl
    rw [hl]
    have E := Ext.refl (w.alloc (.cells (lcells x) 59))
    exact ⟨c0 _ E, c1 _ E, c2 _ E, c3 _ E, c4 _ E, c5 _ E, c6 _ E, c7 _ E, c8 _ E, c9 _ E⟩
  · obtain rfl : i = 0 := by simpa using hi
    exact hx.ext e
set_option maxRecDepth 100000 in
set_option maxHeartbeats 4000000 in
theorem rshr_any (N : Bool) (a : Option Addr) (xs : List Lv) (c : Nat) (fr : ByteArray) (num : Int) (tu : ByteArray) (w : World) (h : Links w a xs) (ho : LksOk xs) (hl : xs.length ≤ 1000000) :
    Calls Try.prog 85 #[rv N a xs.length c, .string fr, .int .i64 num, .string tu] w (fun e w' => ∃ la lc ys, e = .returned (.tuple #[.int .i64 (madeL fr (lks xs)), .slice la ys.length lc]) ∧ Ext w w' ∧ Links w' la ys ∧ LksOk ys ∧ lks ys = lastL fr num tu (lks xs)) := by
  obtain ⟨n, hn⟩ : ∃ n, n = xs.length := ⟨_, rfl⟩
  have HX := Lib.hid h; have HN := Lib.hid hn; have HO := Lib.hid ho
  rw [← hn] at hl ⊢
  clear h hn ho
  go_enter Try.func85, Try.ntmps85
  go_upto_region 1 with fail
  generalize hw1 : World.alloc _ _ = w1
  obtain ⟨he, o1, -⟩ := alloc1 hw1
  obtain ⟨b0, b1⟩ := obj_cells2 o1
  clear hw1 o1 b0
  have HB1 := Lib.hid b1; have HE := Lib.hid he
  clear b1
  go_upto_region 2 with fail
  generalize hw2 : World.alloc _ _ = w2
  obtain ⟨he2, o2, -⟩ := alloc1 hw2
  have HE2 := Lib.hid he2
  clear hw2 o2 he2
  go_wp2_with (fail)
  go_loopw [10, 11, 12] (fun d out i wr => ∃ k : Nat, k ≤ n ∧ i = .int .i64 k ∧ d = .int .i64 (madeL fr ((lks xs).take k)) ∧ Hid (Ext w1 wr) ∧ Hid (∃ la lc ys, out = .slice la ys.length lc ∧ Links wr la ys ∧ LksOk ys ∧ lks ys = lastL fr num tu ((lks xs).take k))) (fun _ _ i _ => n - (intOf i).toNat)
  case atStart => exact ⟨0, Nat.zero_le _, rfl, rfl, HE2.out, _, _, [], rfl, ⟨.inl rfl, by simp⟩, fun i hi => by simp at hi, rfl⟩
  case round =>
    obtain ⟨k, hk, rfl, rfl, her, hys⟩ := hrel
    have E0 := Ext.refl wr
    have b1 := fun W (e : Ext wr W) => HB1.out W (her.out.trans e)
    by_cases hlt : k < n
    · have hlx : k < xs.length := by rw [← HN.out]; exact hlt
      have hbx := HX.out.2 k hlx
      have hox := HO.out k hlx
      have hts := take_snoc xs k hlx
      have hds := madeL_snoc fr ((lks xs).take k) (lth xs k).l
      have hls := lastL_snoc fr num tu ((lks xs).take k) (lth xs k).l
      rw [← hts] at hds hls
      obtain ⟨b, o, rfl, hc⟩ := HX.out.at k hlx
      have hcl := hc wr (HE.out.trans her.out)
      obtain ⟨x, hx⟩ : ∃ x, x = lth xs k := ⟨_, rfl⟩
      rw [← hx] at hds hls hcl hbx hox
      have hle := madeL_le fr k (lks xs)
      obtain ⟨m, hm⟩ : ∃ m, m = madeL fr ((lks xs).take k) := ⟨_, rfl⟩
      rw [← hm] at hle hds ⊢
      obtain ⟨c0, c1, c2, c3, c4, c5, c6, c7, c8, c9⟩ := hcl
      have HDS := Lib.hid hds; have HLS := Lib.hid hls; have HBX := Lib.hid hbx; have HOX := Lib.hid hox
      have hi0 : (0 : Int) ≤ (k : Int) := by omega
      have hi1 : (k : Int) < (n : Int) := by omega
      clear hc hts hds hls hx hbx hox hm
      go_upto_region 6 with fail
      clear c0 c1 c2 c3 c4 c5 c6 c7 c8 c9 b1 E0
      generalize hwa : World.alloc _ _ = wa
      obtain ⟨hea, oa, hsa⟩ := alloc1 hwa
      obtain ⟨d0, d1, d2, d3, d4, d5, d6, d7, d8, d9⟩ := obj_cells10 oa
      have Ea := Ext.refl wa
      have HEA := Lib.hid hea
      have hone := link_one (HBX.out.ext ((HE.out.trans her.out).trans hea))
      have hxa := (Ext.refl wa).alloc (.cells (lcells x) 59)
      have HONE := Lib.hid hone; have HXA := Lib.hid hxa
      clear hwa oa hsa hea hone hxa
      cases T1 : ((x.l.op : Int) != 5) <;> cases T2 : decide (x.l.cu = fr) <;> cases T3 : (x.l.nu == num) <;> cases T4 : decide (x.l.ki = tu)
      all_goals
        have hv := HDS.out
        have hv2 := HLS.out
        rw [T1, T2] at hv
        rw [T1, T2, T3, T4] at hv2
        simp only [Bool.not_true, Bool.not_false, Bool.or_true, Bool.or_false, Bool.true_or, Bool.and_true, Bool.and_false, Bool.true_and, Bool.false_and, if_true, if_false, reduceCtorEq] at hv hv2
        have HV := Lib.hid hv; have HV2 := Lib.hid hv2
        have s2 := str_beq x.l.cu fr
        have s3 := str_beq x.l.ki tu
        rw [T2] at s2
        rw [T4] at s3
        clear hv hv2
        go_wp2_with (fail)
        first
        | exact ⟨⟨k + 1, by omega, by go_num, by rw [HV.out] <;> go_num, her.out.trans HEA.out, by obtain ⟨la, lc, ys, h1, h2, h3, h4⟩ := hys.out; exact ⟨la, lc, ys, h1, h2.ext HEA.out, h3, by rw [HV2.out]; exact h4⟩⟩, by simp [intOf]; omega⟩
        | exact ⟨⟨k + 1, by omega, by go_num, by rw [HV.out] <;> go_num, (her.out.trans HEA.out).trans HXA.out, _, _, [x], rfl, HONE.out, lksOk_one HOX.out, by rw [HV2.out]; rfl⟩, by simp [intOf]; omega⟩
    · obtain rfl : k = n := by omega
      have hend : Hid ((lks xs).take k = lks xs) := by rw [Hid, List.take_of_length_le (by rw [lks_len, HN.out]; exact Nat.le_refl _)]
      obtain ⟨la, lc, ys, rfl, h2, h3, h4⟩ := hys.out
      have H4 := Lib.hid h4; have H2 := Lib.hid h2; have H3 := Lib.hid h3
      clear h2 h3 h4 hys
      go_wp2_with (fail)
      go_ret2
      exact ⟨la, lc, ys, by rw [hend.out]; rfl, HE.out.trans her.out, H2.out, H3.out, by rw [H4.out, hend.out]⟩
end Go.Proofs.Ytlahejakcgoheaa
end
