/-
  Walks of the reference: enter.
-/
import Derived.Test.YtlahejakcgoheaaRD
import Derived.Test.YtlahejakcgoheaaWL
set_option linter.unusedVariables false
set_option linter.unusedSimpArgs false
namespace Go.Proofs.Ytlahejakcgoheaa
open Go.RowKit
set_option maxRecDepth 100000 in
set_option maxHeartbeats 4000000 in
theorem l79_law {b o k n c bx q kn tg : Nat} {nm ps : ByteArray} {w w0 : World} (HB0 : Hid (Ext w w0)) (hk0 : (0 : Int) ≤ (k : Int)) (hk1 : (k : Int) < (n : Int)) (h1 : ∀ W, Ext w W → W.cell? ⟨bx, 1, none⟩ = some (.slice (some ⟨b, o, none⟩) n c)) (h8 : ∀ W, Ext w W → W.cell? ⟨b, o + k * 10 + 8, none⟩ = some (.int .u64 (tg : Int))) (HK : Hid (∀ W, Ext w W → Calls Try.prog 17 #[.string nm, .string ps] W (Ret (u64 kn) W))) (HBY : Hid (∀ W, Ext w W → Calls Try.prog 59 #[u64 kn, .int .i64 8] W (fun e w' => ∃ a' c', e = .returned (.slice a' 8 c') ∧ Ext W w' ∧ Byts w' a' (numB kn 8)))) (HD : Hid (∀ W, Ext w W → ∀ a' c', Byts W a' (numB kn 8) → Calls Try.prog 15 #[.int .u64 2, .slice a' 8 c'] W (Ret (u64 q) W))) {Q : Exit → Act → World → Prop} (aZ : Act) (hsz : aZ.tmps.size = 31) (o1 : aZ.tmps[1]?.getD undef = .string nm) (o2 : aZ.tmps[2]?.getD undef = .string ps) (o3 : aZ.tmps[3]?.getD undef = .pointer (some ⟨bx, 0, none⟩)) (o7 : aZ.tmps[7]?.getD undef = .int .i64 k)
    (hend : ∀ (vs : Nat → Value) (w9 : World) (ls9 : Nat → Bool), (∀ j : Nat, j < 12 → ls9 j = true) → (Ext w0 w9) → (vs 0 = .pointer (some ⟨bx, 1, none⟩)) → (vs 1 = .slice (some ⟨b, o, none⟩) n c) → (vs 2 = .int .i64 k) → (vs 3 = .pointer (some ⟨b, o + k * 10, none⟩)) → (vs 4 = .pointer (some ⟨b, o + k * 10 + 8, none⟩)) → (vs 5 = .int .u64 (tg : Int)) → (vs 6 = .string nm) → (vs 7 = .string ps) → (vs 8 = u64 kn) → (∃ a' c', vs 9 = .slice a' 8 c' ∧ Byts w9 a' (numB kn 8)) → (vs 10 = u64 q) → (vs 11 = .bool ((tg : Int) != (q : Int))) → Q .normal ((((((((((((aZ.put (some 19) (vs 0)).put (some 20) (vs 1)).put (some 21) (vs 2)).put (some 22) (vs 3)).put (some 23) (vs 4)).put (some 24) (vs 5)).put (some 25) (vs 6)).put (some 26) (vs 7)).put (some 27) (vs 8)).put (some 28) (vs 9)).put (some 29) (vs 10)).put (some 30) (vs 11)) w9) : (regOf Try.f79 6).wp Try.prog Q aZ w0 := by
  conv => arg 2; whnf
  refine wp_region_said3 (fun i v wz => match i with
    | 0 => v = .pointer (some ⟨bx, 1, none⟩)
    | 1 => v = .slice (some ⟨b, o, none⟩) n c
    | 2 => v = .int .i64 k
    | 3 => v = .pointer (some ⟨b, o + k * 10, none⟩)
    | 4 => v = .pointer (some ⟨b, o + k * 10 + 8, none⟩)
    | 5 => v = .int .u64 (tg : Int)
    | 6 => v = .string nm
    | 7 => v = .string ps
    | 8 => v = u64 kn
    | 9 => ∃ a' c', v = .slice a' 8 c' ∧ Byts wz a' (numB kn 8)
    | 10 => v = u64 q
    | _ => v = .bool ((tg : Int) != (q : Int))) (fun ls vs wz => Ext w0 wz) (by kernel_rfl) (by kernel_rfl) (by rw [hsz]; kernel_rfl) ?_ ?_ ?_
  · exact (Ext.refl _).drew
  · refine ⟨?_, ?_, ?_, ?_, ?_, ?_, ?_, ?_, ?_, ?_, ?_, ?_, trivial⟩
    · intro ls vs a w1 hi hJ hold hdep K hK
      have q3 : a.tmps[3]?.getD undef = .pointer (some ⟨bx, 0, none⟩) := (hold 3 (by kernel_rfl)).trans o3
      rw [if_pos (by rfl)]
      clear hold hdep hend o1 o2 o3 o7
      go_simp
      exact hK _ _ (fun _ _ _ h => h) hJ rfl
    · intro ls vs a w1 hi hJ hold hdep K hK
      have q19 : a.tmps[19]?.getD undef = .pointer (some ⟨bx, 1, none⟩) := (hdep 0 19 (by kernel_rfl) (by kernel_rfl)).2.1.trans (hdep 0 19 (by kernel_rfl) (by kernel_rfl)).2.2
      rw [if_pos (by rfl)]
      clear hold hdep hend o1 o2 o3 o7
      have hz1 := HB0.out.trans hJ
      go_simp
      exact hK _ _ (fun _ _ _ h => h) hJ rfl
    · intro ls vs a w1 hi hJ hold hdep K hK
      have q7 : a.tmps[7]?.getD undef = .int .i64 k := (hold 7 (by kernel_rfl)).trans o7
      rw [if_pos (by rfl)]
      clear hold hdep hend o1 o2 o3 o7
      go_simp
      exact hK _ _ (fun _ _ _ h => h) hJ rfl
    · intro ls vs a w1 hi hJ hold hdep K hK
      have q20 : a.tmps[20]?.getD undef = .slice (some ⟨b, o, none⟩) n c := (hdep 1 20 (by kernel_rfl) (by kernel_rfl)).2.1.trans (hdep 1 20 (by kernel_rfl) (by kernel_rfl)).2.2
      have q21 : a.tmps[21]?.getD undef = .int .i64 k := (hdep 2 21 (by kernel_rfl) (by kernel_rfl)).2.1.trans (hdep 2 21 (by kernel_rfl) (by kernel_rfl)).2.2
      rw [if_pos (by rfl)]
      clear hold hdep hend o1 o2 o3 o7
      go_simp
      exact hK _ _ (fun _ _ _ h => h) hJ rfl
    · intro ls vs a w1 hi hJ hold hdep K hK
      have q22 : a.tmps[22]?.getD undef = .pointer (some ⟨b, o + k * 10, none⟩) := (hdep 3 22 (by kernel_rfl) (by kernel_rfl)).2.1.trans (hdep 3 22 (by kernel_rfl) (by kernel_rfl)).2.2
      rw [if_pos (by rfl)]
      clear hold hdep hend o1 o2 o3 o7
      go_simp
      exact hK _ _ (fun _ _ _ h => h) hJ rfl
    · intro ls vs a w1 hi hJ hold hdep K hK
      have q23 : a.tmps[23]?.getD undef = .pointer (some ⟨b, o + k * 10 + 8, none⟩) := (hdep 4 23 (by kernel_rfl) (by kernel_rfl)).2.1.trans (hdep 4 23 (by kernel_rfl) (by kernel_rfl)).2.2
      rw [if_pos (by rfl)]
      clear hold hdep hend o1 o2 o3 o7
      have hz1 := HB0.out.trans hJ
      go_simp
      exact hK _ _ (fun _ _ _ h => h) hJ rfl
    · intro ls vs a w1 hi hJ hold hdep K hK
      have q1 : a.tmps[1]?.getD undef = .string nm := (hold 1 (by kernel_rfl)).trans o1
      rw [if_pos (by rfl)]
      clear hold hdep hend o1 o2 o3 o7
      go_simp
      exact hK _ _ (fun _ _ _ h => h) hJ rfl
    · intro ls vs a w1 hi hJ hold hdep K hK
      have q2 : a.tmps[2]?.getD undef = .string ps := (hold 2 (by kernel_rfl)).trans o2
      rw [if_pos (by rfl)]
      clear hold hdep hend o1 o2 o3 o7
      go_simp
      exact hK _ _ (fun _ _ _ h => h) hJ rfl
    · intro ls vs a w1 hi hJ hold hdep K hK
      have q25 : a.tmps[25]?.getD undef = .string nm := (hdep 6 25 (by kernel_rfl) (by kernel_rfl)).2.1.trans (hdep 6 25 (by kernel_rfl) (by kernel_rfl)).2.2
      have q26 : a.tmps[26]?.getD undef = .string ps := (hdep 7 26 (by kernel_rfl) (by kernel_rfl)).2.1.trans (hdep 7 26 (by kernel_rfl) (by kernel_rfl)).2.2
      rw [if_pos (by rfl)]
      clear hold hdep hend o1 o2 o3 o7
      go_simp
      go_at_call 17
      (with_reducible refine (HK.out _ (HB0.out.trans hJ)).mono ?_); rintro e w20 ⟨rfl, he⟩
      exact hK _ _ (fun j u _ h => by
            match j, h with
            | 0, h | 1, h | 2, h | 3, h | 4, h | 5, h | 6, h | 7, h | 8, h | 10, h => exact h
            | 9, h => obtain ⟨a', c', h1, h2⟩ := h; exact ⟨a', c', h1, h2.ext he⟩
            | (n + 11), h => exact h) (hJ.trans he) rfl
    · intro ls vs a w1 hi hJ hold hdep K hK
      have q27 : a.tmps[27]?.getD undef = u64 kn := (hdep 8 27 (by kernel_rfl) (by kernel_rfl)).2.1.trans (hdep 8 27 (by kernel_rfl) (by kernel_rfl)).2.2
      rw [if_pos (by rfl)]
      clear hold hdep hend o1 o2 o3 o7
      go_simp
      go_at_call 59
      (with_reducible refine (HBY.out _ (HB0.out.trans hJ)).mono ?_); rintro e w20 ⟨a', c', rfl, he, hb⟩
      exact hK _ _ (fun j u _ h => by
            match j, h with
            | 0, h | 1, h | 2, h | 3, h | 4, h | 5, h | 6, h | 7, h | 8, h | 10, h => exact h
            | 9, h => obtain ⟨a', c', h1, h2⟩ := h; exact ⟨a', c', h1, h2.ext he⟩
            | (n + 11), h => exact h) (hJ.trans he) ⟨_, _, rfl, hb⟩
    · intro ls vs a w1 hi hJ hold hdep K hK
      obtain ⟨hl9, q28, p28⟩ := hdep 9 28 (by kernel_rfl) (by kernel_rfl)
      rw [if_pos (by rfl)]
      clear hold hdep hend o1 o2 o3 o7
      obtain ⟨a', c', k1, k2⟩ := p28
      rw [k1] at q28
      go_simp
      go_at_call 15
      (with_reducible refine (HD.out _ (HB0.out.trans hJ) a' c' k2).mono ?_); rintro e w20 ⟨rfl, he⟩
      exact hK _ _ (fun j u _ h => by
            match j, h with
            | 0, h | 1, h | 2, h | 3, h | 4, h | 5, h | 6, h | 7, h | 8, h | 10, h => exact h
            | 9, h => obtain ⟨a', c', h1, h2⟩ := h; exact ⟨a', c', h1, h2.ext he⟩
            | (n + 11), h => exact h) (hJ.trans he) rfl
    · intro ls vs a w1 hi hJ hold hdep K hK
      have q24 : a.tmps[24]?.getD undef = .int .u64 (tg : Int) := (hdep 5 24 (by kernel_rfl) (by kernel_rfl)).2.1.trans (hdep 5 24 (by kernel_rfl) (by kernel_rfl)).2.2
      have q29 : a.tmps[29]?.getD undef = u64 q := (hdep 10 29 (by kernel_rfl) (by kernel_rfl)).2.1.trans (hdep 10 29 (by kernel_rfl) (by kernel_rfl)).2.2
      rw [if_pos (by rfl)]
      clear hold hdep hend o1 o2 o3 o7
      go_simp
      exact hK _ _ (fun _ _ _ h => h) hJ rfl
  · intro vs w9 ls9 hl9 hJ9 hφ
    have e0 := hφ 0 (by kernel_rfl)
    have e1 := hφ 1 (by kernel_rfl)
    have e2 := hφ 2 (by kernel_rfl)
    have e3 := hφ 3 (by kernel_rfl)
    have e4 := hφ 4 (by kernel_rfl)
    have e5 := hφ 5 (by kernel_rfl)
    have e6 := hφ 6 (by kernel_rfl)
    have e7 := hφ 7 (by kernel_rfl)
    have e8 := hφ 8 (by kernel_rfl)
    have e9 := hφ 9 (by kernel_rfl)
    have e10 := hφ 10 (by kernel_rfl)
    have e11 := hφ 11 (by kernel_rfl)
    have hq := hend vs w9 ls9 hl9 hJ9 e0 e1 e2 e3 e4 e5 e6 e7 e8 e9 e10 e11
    simp only [Act.put] at hq
    simp only [putAll, Act.put]
    exact hq
theorem cusAt_lt (nm : ByteArray) (ls : List Lk) : -1 ≤ cusAt nm ls ∧ cusAt nm ls < ls.length := by
  have h : ∀ k, k ≤ ls.length → -1 ≤ cusAt nm (ls.take k) ∧ cusAt nm (ls.take k) < (k : Int) := by
    intro k
    induction k with
    | zero => intro _; simp [cusAt, cusF]
    | succ k ih =>
      intro hk
      have h1 := ih (by omega)
      have h2 := cusF_take nm k ls (by omega)
      unfold cusAt at h1 ⊢
      rw [List.take_succ_eq_append_getElem (by omega), cusF_snoc, h2]
      simp only
      split <;> omega
  have := h ls.length (Nat.le_refl _)
  rwa [List.take_length] at this
def rentE (N : Bool) (ls : List Lk) (nm ps : ByteArray) : Int :=
  if N then 1 else if cusAt nm ls < 0 then 7 else if ((ls.getD (cusAt nm ls).toNat Lk.nil).tag : Int) ≠ (proofN (keyN nm ps) : Int) then 110 else 0
set_option maxRecDepth 100000 in
set_option maxHeartbeats 1000000 in
theorem rent_any (N : Bool) (a : Option Addr) (xs : List Lv) (c : Nat) (nm ps : ByteArray) (w : World) (h : Links w a xs) (hl : xs.length ≤ 1000000) (hn : nm.size ≤ 1000000) (hp : ps.size ≤ 1000000) :
    Calls Try.prog 79 #[rv N a xs.length c, .string nm, .string ps] w (Ret (.int .i64 (rentE N (lks xs) nm ps)) w) := by
  have hcu := fun W (e : Ext w W) => rcus_any N a xs c nm W (h.ext e) hl
  have hlt := cusAt_lt nm (lks xs)
  rw [lks_len] at hlt
  obtain ⟨at0, hat⟩ : ∃ z, z = cusAt nm (lks xs) := ⟨_, rfl⟩
  obtain ⟨cn, hcn⟩ : ∃ z, z = cusN (lks xs) := ⟨_, rfl⟩
  obtain ⟨q, hq⟩ : ∃ q, q = rentE N (lks xs) nm ps := ⟨_, rfl⟩
  obtain ⟨n, hnn⟩ : ∃ n, n = xs.length := ⟨_, rfl⟩
  rw [← hat, ← hcn] at hcu
  rw [← hq]
  have hqq := hq
  unfold rentE at hqq
  rw [← hat] at hqq
  rw [← hat] at hlt
  have HQ := Lib.hid hqq; have HX := Lib.hid h; have HN := Lib.hid hnn
  rw [← hnn] at hcu hl hlt ⊢
  have HCU := Lib.hid hcu; have hn2 := hn; have hp2 := hp
  clear hcu hq hqq h hnn hat hcn
  go_enter Try.func79, Try.ntmps79
  go_upto_region 1 with fail
  generalize hw1 : World.alloc _ _ = w1
  obtain ⟨he, o1, -⟩ := alloc1 hw1
  obtain ⟨b0, b1⟩ := obj_cells2 o1
  clear hw1 o1
  have HE := Lib.hid he; have HB1 := Lib.hid b1
  have E1 := Ext.refl w1
  cases N
  · go_wp2_with (fail)
    (with_reducible refine (HCU.out _ he).mono ?_); rintro e w2 ⟨rfl, he2⟩
    clear HCU b0 b1 E1
    by_cases hneg : at0 < 0
    · have hr : Hid (q = 7) := by rw [Hid, HQ.out, if_neg (by simp), if_pos hneg]
      go_wp2_with (fail)
      go_ret
      exact ⟨by rw [hr.out]; rfl, he.trans he2⟩
    · obtain ⟨k, hk⟩ : ∃ k : Nat, at0 = (k : Int) := ⟨at0.toNat, by omega⟩
      subst hk
      have hkn : k < n := by omega
      obtain ⟨b, o, rfl, hc⟩ := HX.out.at k (by rw [← HN.out]; exact hkn)
      obtain ⟨x, hx⟩ : ∃ x, x = lth xs k := ⟨_, rfl⟩
      rw [← hx] at hc
      have HTG : Hid (((lks xs).getD k Lk.nil) = x.l) := by
        rw [Hid, hx, lth_eq _ _ (by rw [← HN.out]; exact hkn), List.getD_eq_getElem?_getD]
        simp [lks, show k < xs.length by rw [← HN.out]; exact hkn]
      have HB0 : Hid (Ext w1 w2) := he2
      have hk0 : (0 : Int) ≤ (k : Int) := by omega
      have hk1 : (k : Int) < (n : Int) := by omega
      have h8 : ∀ W, Ext w1 W → W.cell? ⟨b, o + k * 10 + 8, none⟩ = some (.int .u64 (x.l.tag : Int)) := fun W e => (hc W (HE.out.trans e)).2.2.2.2.2.2.2.2.1
      have h1 : ∀ W, Ext w1 W → W.cell? ⟨w.heap.size, 1, none⟩ = some (.slice (some ⟨b, o, none⟩) n c) := HB1.out
      have HK : Hid (∀ W, Ext w1 W → Calls Try.prog 17 #[.string nm, .string ps] W (Ret (u64 (keyN nm ps)) W)) := fun W e => rkey_any nm ps W hn2 hp2
      have hk64 : keyN nm ps < 18446744073709551616 := by
        have : keyN nm ps < p61 := by unfold keyN; first | exact hbs_lt _ _ (nh_lt _) | (repeat (first | exact hb_lt _ _ | apply hbs_lt | exact nh_lt _))
        exact p61_64 this
      have HBY : Hid (∀ W, Ext w1 W → Calls Try.prog 59 #[u64 (keyN nm ps), .int .i64 8] W (fun e w' => ∃ a' c', e = .returned (.slice a' 8 c') ∧ Ext W w' ∧ Byts w' a' (numB (keyN nm ps) 8))) := fun W e =>
        (rbytes_any (keyN nm ps) 8 W hk64 (by omega)).mono fun e w' ⟨a', c', h1, h2, h3⟩ => ⟨a', c', by rw [h1, numB_len], h2, h3.byts.1⟩
      have HD : Hid (∀ W, Ext w1 W → ∀ a' c', Byts W a' (numB (keyN nm ps) 8) → Calls Try.prog 15 #[.int .u64 2, .slice a' 8 c'] W (Ret (u64 (proofN (keyN nm ps))) W)) := fun W e a' c' hb => by
        have := rdigest_any 2 a' (numB (keyN nm ps) 8) c' W hb (by rw [numB_len]; omega)
        rw [numB_len] at this
        exact this
      clear hc hx hk64 HX
      go_upto_region 6 with fail
      refine l79_law HB0 hk0 hk1 h1 h8 HK HBY HD _ (by rfl) rfl rfl rfl rfl ?_
      intro vs w9 ls9 hl9 hJ9 e0 e1 e2 e3 e4 e5 e6 e7 e8 e9 e10 e11
      simp only [Act.put, List.setIfInBounds_toArray, List.set_cons_zero, List.set_cons_succ]
      rw [e0, e1, e2, e3, e4, e5, e6, e7, e8, e10, e11]
      cases T : ((x.l.tag : Int) != (proofN (keyN nm ps) : Int))
      · have hr : Hid (q = 0) := by
          rw [Hid, HQ.out, if_neg (by simp), if_neg (by omega), Int.toNat_natCast, HTG.out, if_neg]
          rw [bne_eq_false_iff_eq] at T; simpa using T
        go_wp2_with (fail)
        go_ret
        exact ⟨by rw [hr.out]; rfl, (HE.out.trans HB0.out).trans hJ9⟩
      · have hr : Hid (q = 110) := by
          rw [Hid, HQ.out, if_neg (by simp), if_neg (by omega), Int.toNat_natCast, HTG.out, if_pos]
          rw [bne_iff_ne] at T; exact T
        go_wp2_with (fail)
        go_ret
        exact ⟨by rw [hr.out]; rfl, (HE.out.trans HB0.out).trans hJ9⟩
  · have hr : Hid (q = 1) := by rw [Hid, HQ.out, if_pos rfl]
    go_wp2_with (fail)
    go_ret
    exact ⟨by rw [hr.out]; rfl, he⟩
set_option maxRecDepth 100000 in
set_option maxHeartbeats 1000000 in
theorem rgone_any (N : Bool) (a : Option Addr) (xs : List Lv) (c : Nat) (la : Option Addr) (ys : List Lv) (lc : Nat) (w : World) (h : Links w a xs) (ho : LksOk xs) (hl : xs.length ≤ 1000000) (hy : Links w la ys) (h0 : 0 < ys.length) :
    Calls Try.prog 83 #[rv N a xs.length c, .slice la ys.length lc] w (Ret (.bool (decide ((lth ys 0).l.un < dayL (lks xs)))) w) := by
  have hdy := fun W (e : Ext w W) => rday_any N a xs c W (h.ext e) ho hl
  obtain ⟨d, hd⟩ : ∃ d, d = dayL (lks xs) := ⟨_, rfl⟩
  obtain ⟨m, hm⟩ : ∃ m, m = advN (lks xs) := ⟨_, rfl⟩
  obtain ⟨n, hn⟩ : ∃ n, n = xs.length := ⟨_, rfl⟩
  obtain ⟨ny, hny⟩ : ∃ ny, ny = ys.length := ⟨_, rfl⟩
  obtain ⟨b, o, rfl, hc⟩ := hy.at 0 h0
  obtain ⟨x, hx⟩ : ∃ x, x = lth ys 0 := ⟨_, rfl⟩
  rw [← hx] at hc ⊢
  rw [← hny] at h0 ⊢
  rw [← hd, ← hm, ← hn] at hdy
  rw [← hd, ← hn]
  have HDY := Lib.hid hdy
  have hk1 : (0 : Int) < (ny : Int) := by omega
  have c6 : ∀ W, Ext w W → W.cell? ⟨b, o + 6, none⟩ = some (.int .i64 x.l.un) := fun W e => by
    have := (hc W e).2.2.2.2.2.2.1
    simpa using this
  have HC6 := Lib.hid c6
  clear hdy hd hm hn hny hc hx h ho hl hy c6
  go_enter Try.func83, Try.ntmps83
  go_upto_region 1 with fail
  generalize hw1 : World.alloc _ _ = w1
  obtain ⟨he, o1, -⟩ := alloc1 hw1
  obtain ⟨b0, b1⟩ := obj_cells2 o1
  clear hw1 o1
  have E1 := Ext.refl w1
  go_wp2_with (fail)
  (with_reducible refine (HDY.out _ he).mono ?_); rintro e w2 ⟨rfl, he2⟩
  have c6 := fun W (e : Ext w2 W) => HC6.out W ((he.trans he2).trans e)
  have E2 := Ext.refl w2
  clear HDY b0 b1 E1
  go_wp2_with (fail)
  go_ret
  exact ⟨rfl, he.trans he2⟩
end Go.Proofs.Ytlahejakcgoheaa
