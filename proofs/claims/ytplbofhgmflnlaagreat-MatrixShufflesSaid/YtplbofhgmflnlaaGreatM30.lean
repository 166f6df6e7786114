/-
  Walks: Runs.
-/
import Derived.Test.YtplbofhgmflnlaaGreatM29
set_option linter.unusedVariables false
set_option linter.unusedSimpArgs false
namespace Go.Proofs.YtplbofhgmflnlaaGreat
open Go.RowKit
/-- Whether a run has another sign than a word says. -/
def badRun (run : Nat) (x : Wd) : Bool := ((ones (x.mask &&& run) % 2 == 1) != x.odd)
set_option maxHeartbeats 1000000 in
theorem badRun_any (run : Nat) (x : Wd) (B : Nat) (w : World) (hr : run < 65536) (hx : x.mask < 65536) (c0 : ∀ W, Ext w W → W.cell? ⟨B, 0, none⟩ = some (.int .u16 (run : Int))) :
    Calls Tryz.prog 85 #[wdV x, .pointer (some ⟨B, 0, none⟩)] w (Ret (.bool (badRun run x)) w) := by
  obtain ⟨k, o⟩ := x
  obtain ⟨z, hz⟩ : ∃ z, z = k &&& run := ⟨_, rfl⟩
  have hand : bits .and .u16 (k : Int) (run : Int) = (z : Int) := by rw [hz]; exact bits_and_u16_nat k run hx hr
  have hz16 : z < 65536 := by rw [hz]; exact Nat.lt_of_le_of_lt Nat.and_le_left hx
  have HO : Hid (∀ (w1 : World) (n : Later w1), Calls Tryz.prog 86 #[.int .u16 (z : Int)] n.val (Ret (.int .i64 (ones z : Int)) n.val)) := fun w1 n => ones_any z n.val hz16
  have HR : Hid (badRun run ⟨k, o⟩ = ((ones z % 2 == 1) != o)) := by rw [Hid, badRun, hz]
  obtain ⟨q, hq⟩ : ∃ q, q = ones z := ⟨_, rfl⟩
  have hq16 : q ≤ 16 := by rw [hq]; exact onesF_le 16 z
  rw [← hq] at HO HR
  rw [HR.out]
  clear hz hx hz16 HR hq
  go_enter Tryz.func85, Tryz.ntmps85
  go_wp2_with (fail)
  generalize hw1 : World.alloc _ _ = w1
  obtain ⟨he, o1, -⟩ := alloc1 hw1
  obtain ⟨b0, b1⟩ := obj_cells2 o1
  have d0 := fun W (e : Ext w1 W) => c0 W (he.trans e)
  have hr0 := Ext.refl w1
  have HE := Lib.hid he
  clear hw1 o1 he c0
  refine wp_region_ext (by kernel_rfl) (by kernel_rfl) hr0 ?_
  repeat (first | go_big_quiet_step (((go_at_call 86; exact Calls.later (HO.out _ _)))) | quiet_step (((go_at_call 86; exact Calls.later (HO.out _ _)))))
  refine wpQuiet_nil ?_
  rintro _ ⟨nq, rfl⟩
  have hq2 := nq.ok
  go_wp2_with (fail)
  go_ret
  refine ⟨ret_bool ?_, HE.out.trans hq2⟩
  have e : ((q : Int) % 2 == 1) = (q % 2 == 1) := by
    rcases Nat.mod_two_eq_zero_or_one q with h | h
    · rw [h, show (q : Int) % 2 = 0 by omega]; rfl
    · rw [h, show (q : Int) % 2 = 1 by omega]; rfl
  rw [e]; rfl
/-- Numbers of 16 bits as cells. -/
def u16C (x : Nat) : List Value := [.int .u16 (x : Int)]
theorem u16C_len (x : Nat) : (u16C x).length = 1 := rfl
theorem u16C_one (x : Nat) : ∀ u ∈ u16C x, u.oneCell' = true := by
  intro u hu
  simp only [u16C, List.mem_cons, List.mem_nil_iff, or_false] at hu
  subst hu; rfl
abbrev OwnU (w : World) (B : Nat) (v : Value) (xs : List Nat) : Prop := OwnF 59 1 u16C w B v xs
theorem info59 : (Tryz.prog.info? 59).map (fun i => (i.zero, i.size, i.bytes)) = some (some (.int .u16 0), 1, 2) := by kernel_rfl
theorem u16_one {w : World} {b : Nat} {x : Nat} {T : TypeId} {fz : Nat × Nat} (h : w.heap[b]? = some (.cells #[.int .u16 (x : Int)] T fz)) : RowAt 1 u16C w (some ⟨b, 0, none⟩) [x] := by
  have c0 := obj_cells1 h
  refine .inr ⟨b, 0, rfl, fun i hi j hj => ?_⟩
  obtain rfl : i = 0 := by simp at hi; omega
  match j, hj with
  | 0, _ => exact c0 w (Ext.refl w)
theorem app_u16 (w : World) (B : Nat) (ty : TypeId) (v : Value) (xs ys : List Nat) (a : Option Addr) (c : Nat) (hv : OwnU w B v xs) (hx : RowAt 1 u16C w a ys) (hn : xs.length + ys.length ≤ 1000000) (hB : B ≤ w.heap.size) :
    ∃ v' w', (Builtin.append_ #[61, 61] ty #[v, .slice a ys.length c]).run Tryz.prog w = .ok v' w' ∧ OwnU w' B v' (xs ++ ys) ∧ w.grownBy w' v.ownBlock := by
  obtain ⟨i0, hi, hz0, hz1, hz2⟩ := info_parts info59
  exact app_row u16C_len u16C_one Tryz.underlying61 hi hz0 hz1 hz2 rfl (by omega) (by omega) w B ty v xs ys a c hv hx hn hB
/-- The runs below k that belong to a fraction. -/
def runsTo (ws : List Wd) (k : Nat) : List Nat := (List.range k).filter fun run => !ws.any (badRun run)
theorem runsTo_succ (ws : List Wd) (k : Nat) : runsTo ws (k + 1) = if ws.any (badRun k) then runsTo ws k else runsTo ws k ++ [k] := by
  unfold runsTo
  rw [List.range_succ, List.filter_append]
  cases h : ws.any (badRun k) <;> simp [h]
theorem runsTo_len (ws : List Wd) (k : Nat) : (runsTo ws k).length ≤ k := Nat.le_trans (List.length_filter_le _ _) (by simp)
def RetRuns (xs : List Nat) (w : World) (e : Ending) (w' : World) : Prop := ∃ a c, e = .returned (.tuple #[.slice a xs.length c, .int .i64 0]) ∧ Ext w w' ∧ OwnU w' w.heap.size (.slice a xs.length c) xs
set_option maxHeartbeats 1000000 in
theorem Runs_no (F : Fr) (w : World) (h : FrAt w F) (hb : FrB F) (hv : checkF F ≠ 0) : Calls Tryz.prog 28 #[frV F] w (Ret (.tuple #[.slice none 0 0, .int .i64 (checkF F)]) w) := by
  have hck := fun W (e : Ext w W) => checkF_any F W (h.ext e) hb
  obtain ⟨v, hve⟩ : ∃ v, v = checkF F := ⟨_, rfl⟩
  rw [← hve] at hck hv ⊢
  obtain ⟨n, ws, wa, wc⟩ := F
  have HCK := Lib.hid hck
  have hv0 : (v != 0) = true := by simpa using hv
  clear h hb hve hck hv
  go_enter Tryz.func28, Tryz.ntmps28
  go_wp2_with (fail)
  generalize hw1 : World.alloc _ _ = w1
  obtain ⟨he, o1, -⟩ := alloc1 hw1
  obtain ⟨b0, b1⟩ := obj_cells2 o1
  have E1 := Ext.refl w1
  have HE := Lib.hid he
  clear hw1 o1 he
  go_wp2_with (go_at_call 33; (with_reducible refine (HCK.out _ HE.out).mono ?_); rintro e w2 ⟨rfl, he2⟩)
  go_ret2
  exact ⟨rfl, HE.out.trans he2⟩
set_option maxRecDepth 100000 in
set_option maxHeartbeats 4000000 in
theorem Runs_ok (F : Fr) (m : Nat) (w : World) (h : FrAt w F) (hb : FrB F) (hv : checkF F = 0) (hm : F.n = (m : Int)) (hm12 : m ≤ 12) (hl : F.ws.length ≤ 12) : Calls Tryz.prog 28 #[frV F] w (RetRuns (runsTo F.ws (2 ^ m)) w) := by
  have hck := fun W (e : Ext w W) => checkF_any F W (h.ext e) hb
  rw [hv] at hck
  have HB := Lib.hid hb.1
  have H := Lib.hid h
  obtain ⟨n, ws, wa, wc⟩ := F
  simp only at hm hl
  subst hm
  have HCK := Lib.hid hck
  clear h hb hck hv
  have hpow : (2 : Nat) ^ m ≤ 4096 := by
    have : (2 : Nat) ^ m ≤ 2 ^ 12 := Nat.pow_le_pow_right (by omega) hm12
    omega
  have h0 : (0 : Int) ≤ (m : Int) := by omega
  show Calls Tryz.prog 28 #[frV ⟨(m : Int), ws, wa, wc⟩] w (RetRuns (runsTo ws (2 ^ m)) w)
  obtain ⟨Q, hQ⟩ : ∃ Q : Nat, Q = 2 ^ m := ⟨_, rfl⟩
  rw [← hQ] at hpow ⊢
  have hQi : (2 : Int) ^ m = (Q : Int) := by rw [hQ]; norm_cast
  clear hQ
  go_enter Tryz.func28, Tryz.ntmps28
  go_wp2_with (fail)
  generalize hw1 : World.alloc _ _ = w1
  obtain ⟨he, o1, -⟩ := alloc1 hw1
  obtain ⟨b0, b1⟩ := obj_cells2 o1
  have E1 := Ext.refl w1
  have HE := Lib.hid he
  obtain ⟨fb, hfb⟩ : ∃ fb, fb = w.heap.size := ⟨_, rfl⟩
  rw [← hfb] at b0 b1 ⊢
  clear hw1 o1 he hfb
  go_wp2_with (go_at_call 33; (with_reducible refine (HCK.out _ HE.out).mono ?_); rintro e w2 ⟨rfl, he2⟩)
  go_loopw [5, 15] (fun v i wr => ∃ k : Nat, k ≤ Q ∧ i = .int .u16 k ∧ Ext w1 wr ∧ Hid (OwnU wr w1.heap.size v (runsTo ws k))) (fun _ i _ => Q - (intOf i).toNat)
  case atStart => exact ⟨0, Nat.zero_le _, rfl, he2, OwnF.nil _ _ _ _ _⟩
  case round =>
    obtain ⟨k, hk, rfl, hr, hown⟩ := hrel
    obtain ⟨wo, rfl⟩ : ∃ wo : World, wo = wr := ⟨_, rfl⟩
    by_cases hlt : k < Q
    · have hk16 : k < 65536 := by omega
      go_upto_region 8 with fail
      generalize hw3 : World.alloc wo _ = w3
      obtain ⟨he3, o3, hs3⟩ := alloc1 hw3
      obtain ⟨rb, hrb⟩ : ∃ rb, rb = wo.heap.size := ⟨_, rfl⟩
      rw [← hrb] at o3 ⊢
      have c0 := obj_cells1 o3
      have hr3 := hr.trans he3
      have d1 := fun W (e : Ext w3 W) => b1 W (hr3.trans e)
      have E3 := Ext.refl w3
      have hcf := containsFunc_wd 85 #[.pointer (some ⟨rb, 0, none⟩)] wa ws.length wc ws (badRun k) w3 rfl (by omega) (H.out.ext (HE.out.trans hr3)) (fun i hi => ⟨enters85, fun W e => badRun_any k _ rb W hk16 (HB.out i hi) (fun W' e' => c0 W' (e.trans e'))⟩)
      obtain ⟨S, hS⟩ : ∃ S, S = ws.any (badRun k) := ⟨_, rfl⟩
      rw [← hS] at hcf
      have HCF := Lib.hid hcf
      have HN : Hid (runsTo ws (k + 1) = if S then runsTo ws k else runsTo ws k ++ [k]) := by rw [Hid, runsTo_succ, ← hS]
      have HO3 := Lib.hid (hown.out.ext he3)
      clear hw3 o3 hs3 hrb hcf hS he3 hown
      cases S
      · simp only [Bool.false_eq_true, if_false] at HN
        have HAPP : Hid (∀ W, Ext w3 W → ∃ v' w', (Builtin.append_ #[61, 61] 61 #[u5, .slice (some ⟨W.heap.size, 0, none⟩) 1 1]).run Tryz.prog (W.alloc (.cells #[.int .u16 (k : Int)] 59)) = .ok v' w' ∧ OwnU w' w1.heap.size v' (runsTo ws (k + 1)) ∧ Ext w1 w') := fun W e => by
          have hx := (Ext.refl W).alloc (.cells #[.int .u16 (k : Int)] 59)
          have hl := runsTo_len ws k
          obtain ⟨v', w', r1, r2, r3⟩ := app_u16 (W.alloc (.cells #[.int .u16 (k : Int)] 59)) w1.heap.size 61 u5 (runsTo ws k) [k] (some ⟨W.heap.size, 0, none⟩) 1 ((HO3.out.ext e).ext hx) (u16_one (heap_new _ _)) (by simp; omega) (by rw [heap_size]; have := (hr3.trans e).size; omega)
          refine ⟨v', w', r1, by rw [HN.out]; exact r2, grown_ext ((hr3.trans e).alloc _) r3 (fun j hj => (HO3.out.lt j hj).1)⟩
        go_wp2_with (first | (go_at_call 84; (with_reducible refine HCF.out.mono ?_); rintro e w4 ⟨rfl, he4⟩; have c4 := fun W (e : Ext w4 W) => c0 W (he4.trans e); have E4 := Ext.refl w4) | (at_builtin; refine wpList_app _ rfl _ _ 61 rfl _ (HAPP.out _ he4) ?_; rintro v' w5 ⟨hv1, hv2⟩; have HV1 := Lib.hid hv1; have HV2 := Lib.hid hv2; clear hv1 hv2 HAPP HCF))
        go_roundw
        case rel => exact ⟨k + 1, by omega, by go_num, HV2.out, HV1.out⟩
        case measure => simp [intOf]; omega
      · simp only [if_true] at HN
        have HV1 : Hid (∀ W, Ext w3 W → OwnU W w1.heap.size u5 (runsTo ws (k + 1))) := fun W e => by rw [HN.out]; exact HO3.out.ext e
        go_wp2_with (go_at_call 84; (with_reducible refine HCF.out.mono ?_); rintro e w4 ⟨rfl, he4⟩)
        go_roundw
        case rel => exact ⟨k + 1, by omega, by go_num, hr3.trans he4, HV1.out _ he4⟩
        case measure => simp [intOf]; omega
    · obtain rfl : k = Q := by omega
      obtain ⟨oa, oc, ho⟩ := slice_row (r := ⟨59, 1, u5, (runsTo ws k).length, rowF u16C (runsTo ws k)⟩) hown.out
      have ho' : u5 = .slice oa (runsTo ws k).length oc := ho
      subst ho'
      go_wp2_with (fail)
      go_ret2
      exact ⟨oa, oc, rfl, HE.out.trans hr, own_base hown.out HE.out.size⟩
end Go.Proofs.YtplbofhgmflnlaaGreat
