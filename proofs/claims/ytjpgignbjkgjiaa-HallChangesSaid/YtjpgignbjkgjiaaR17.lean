/-
  Texts merged: R16, R17.
-/
import Derived.Test.YtjpgignbjkgjiaaR15
import Derived.Test.YtjpgignbjkgjiaaP10
section
set_option linter.unusedVariables false
set_option linter.unusedSimpArgs false
namespace Go.Proofs.Ytjpgignbjkgjiaa
open Go.RowKit
attribute [local go_sem ↓] Go.wp_at_zero Go.wp_at_succ
theorem refAll_one (ha : Hal) (x : HP) (c : Camp) (la : Option Addr) (lc : Nat) (ia : Option Addr) (ic gs : Nat) (W : World) (hh : HallAt W ha x) (hl : Camps W la [c]) (hv : VH ha [c])
    (hg : W.heap[gs]? = some (.cells #[.slice ia (hoursS ha.st.length 0).length ic] 22 (0, 0))) (hi : Ints W ia (hoursS ha.st.length 0)) :
    Calls Try.prog 27 #[hval ha x, .slice la 1 lc, .slice (some ⟨gs, 0, none⟩) 1 1] W (RetAll (allSt ha [c] fun _ => hoursS ha.st.length 0) W) := by
  have hn := hv.n2
  refine refAll ha x [c] la lc [⟨ia, hoursS ha.st.length 0, ic⟩] (some ⟨gs, 0, none⟩) 1 W hh hl hv ?_ rfl (fun _ => hoursS ha.st.length 0) (fun j hj => ?_) (fun j hj => ?_) (fun k hk => ?_)
  · refine ⟨.inr ⟨gs, 0, rfl, by have := lt_of_block hg; omega, fun i hi0 => ?_⟩, fun i hi0 => ?_⟩
    · obtain rfl : i = 0 := by simp at hi0; omega
      exact obj_cells1 hg W (Ext.refl W)
    · obtain rfl : i = 0 := by simp at hi0; omega
      exact hi.x (Nat.le_refl _)
  · obtain rfl : j = 0 := by simp at hj; omega
    rfl
  · rw [hoursS_len]; omega
  · rw [List.length_singleton] at hk
    rcases (show k = 0 ∨ k = 1 by omega) with rfl | rfl
    · simp [prodN]
    · simp [prodN, hoursS_len]; omega
def allSl (st : St) (a : Option Addr) (c : Nat) : Value := match st with | none => .slice none 0 0 | some (p, _) => .slice a p.length c
theorem allV_eq (st : St) (a : Option Addr) (c : Nat) : allV st a c = .tuple #[allSl st a c, .bool (stFound st)] := by
  cases st <;> rfl
def oneC (c : Camp) : Camp := { c with we := 1 }
theorem oneC_cb {n : Int} {c : Camp} (h : CB n c) : CB n (oneC c) := ⟨h.cu0, h.cu1, h.pr0, h.pr1, h.ho0, h.ho1, h.en0, h.en1, h.ea0, h.ea1, h.la1, by show (0 : Int) ≤ 1; omega, by show (1 : Int) ≤ 100; omega⟩
theorem startsS_lt {ha : Hal} {l : List Camp} (hv : VH ha l) {k : Nat} (hk : k ≤ l.length) (hf : ∀ j, j < k → 0 < (startsS ha (cth l j) 0).length) : 0 ≤ leastTo l (leftS ha l 0) k ∧ leastTo l (leftS ha l 0) k ≤ 12000 * k := by
  induction k with
  | zero => simp [leastTo]
  | succ j ih =>
    have h1 := ih (by omega) fun j hj => hf j (by omega)
    have hb := startsS_bd hv (hv.cb j (by omega)) 0
    have hj0 := hb.2 _ (nth_mem (hf j (by omega)))
    have h2 := we_bd (hv.cb j (by omega)) hj0.1 hj0.2
    simp only [leastTo]
    rw [lth_leftS _ _ _ _ (by omega)]
    omega
def bndT (ha : Hal) (l : List Camp) : Int := if anyEmpty (leftS ha l 0) then 0 else leastTo l (leftS ha l 0) l.length
set_option maxRecDepth 100000 in
set_option maxHeartbeats 4000000 in
theorem refBound (ha : Hal) (x : HP) (l : List Camp) (la : Option Addr) (lc : Nat) (w : World) (hh : HallAt w ha x) (hl : Camps w la l) (hv : VH ha l) :
    Calls Try.prog 35 #[hval ha x, .slice la l.length lc] w (Ret (.tuple #[.int .i64 (bndT ha l), .bool (!anyEmpty (leftS ha l 0))]) w) := by
  have hn96 := hv.n2
  have hl16 := hv.ll
  have hho := fun W (h : Ext w W) => hours_any ha x 0 W (by omega) (by omega) (by omega)
  have hall := fun W (h : Ext w W) c la lc ia ic gs hl hv => refAll_one ha x c la lc ia ic gs W (hh.ext h) hl hv
  have HHO := Lib.hid hho; have HAL := Lib.hid hall; have HV := Lib.hid hv
  clear hho hall hh hv
  obtain ⟨sa, sc, ea, ec⟩ := x
  go_enter Try.func35, Try.ntmps35
  go_wp2_with (fail)
  generalize hw1 : World.alloc _ _ = w1
  obtain ⟨he, o1, -⟩ := alloc1 hw1
  obtain ⟨b0, b1, b2, b3⟩ := obj_cells4 o1
  clear hw1 o1
  go_loopw [6, 7] (fun s i wr => ∃ k : Nat, k ≤ l.length ∧ i = .int .i64 k ∧ s = .int .i64 (leastTo l (leftS ha l 0) k) ∧ Ext w1 wr ∧ Hid (∀ j, j < k → 0 < (startsS ha (cth l j) 0).length)) (fun _ i _ => l.length - (intOf i).toNat)
  case atStart => exact ⟨0, Nat.zero_le _, rfl, rfl, Ext.refl _, fun j hj => by omega⟩
  case round =>
    obtain ⟨k, hk, rfl, rfl, hr, hf⟩ := hrel
    by_cases hlt : k < l.length
    · obtain ⟨b, o, rfl, c0, c1, c2, c3, c4, c5, c6⟩ := (hl.ext he).at k hlt
      go_upto_region 7 with fail
      generalize hw3 : World.alloc _ _ = w3
      obtain ⟨he3, o1, -⟩ := alloc1 hw3
      have hone : Camps w3 (some ⟨wr.heap.size, 0, none⟩) [oneC (cth l k)] := camps_one (c := oneC (cth l k)) o1
      have HON := Lib.hid hone
      clear hw3 o1 hone
      have hx3 := hr.trans he3
      have hw3' := Lib.hid (he.trans hx3)
      have d0 := fun W (h : Ext w3 W) => b0 W (hx3.trans h)
      have d1 := fun W (h : Ext w3 W) => b1 W (hx3.trans h)
      have d2 := fun W (h : Ext w3 W) => b2 W (hx3.trans h)
      have d3 := fun W (h : Ext w3 W) => b3 W (hx3.trans h)
      have hr0 := Ext.refl w3
      have hvo := HV.out.one (oneC_cb (HV.out.cb k hlt))
      have HVO := Lib.hid hvo
      clear hvo
      go_region_held3 (fun W => Ext w3 W) (first | with_reducible assumption | exact Ext.drew (by with_reducible assumption) | exact Ext.alloc (by with_reducible assumption) _ | exact (Ext.alloc (by with_reducible assumption) _).drew)
        (first
        | (go_at_call 26; (with_reducible refine (HHO.out _ (hw3'.out.trans (by with_reducible assumption))).mono ?_); rintro e w4 ⟨ia, ic, rfl, he4, ho4⟩; have hx4 := Ext.trans (show Ext w3 _ by with_reducible assumption) he4; have hin4 := ho4.ints.1; have HI4 := Lib.hid hin4; clear ho4 hin4)
        | (go_at_call 27; (with_reducible refine (HAL.out _ (hw3'.out.trans (by with_reducible assumption)) (oneC (cth l k)) (some ⟨wr.heap.size, 0, none⟩) 1 ia ic w4.heap.size (HON.out.ext (by with_reducible assumption)) HVO.out (heap_new _ _) (HI4.out.ext ((Ext.refl _).alloc _))).mono ?_); rintro e w5 ⟨pa, pc, rfl, he5, hi5⟩; rw [allV_eq]; have hx5 := Ext.trans (show Ext w3 _ by with_reducible assumption) he5)
        | fail)
      have hone := all_one (HV.out.cb k hlt) HV.out.r0
      change allSt ha [oneC (cth l k)] (fun _ => hoursS ha.st.length 0) = _ at hone
      rw [hone] at hi5 ⊢
      clear hone d0 d1 d2 d3 hr0 HON HVO HI4
      have hbd := startsS_bd HV.out (HV.out.cb k hlt) 0
      have hlth := lth_leftS ha l 0 k hlt
      cases hs : startsS ha (cth l k) 0 with
      | nil =>
        have hz : bndT ha l = 0 ∧ anyEmpty (leftS ha l 0) = true := by
          have := anyEmpty_nth (left := leftS ha l 0) (k := k) (by rw [leftS_len]; exact hlt) (by rw [hlth, hs]; rfl)
          rw [bndT, this]; exact ⟨rfl, rfl⟩
        have HZ := Lib.hid hz
        rw [hs] at hi5
        clear hz hs hi5 hlth hbd
        simp only [allSl, stFound, Option.isSome_none]
        go_wp2_with (fail)
        go_ret2
        exact ⟨by rw [HZ.out.1, HZ.out.2]; rfl, (he.trans hx3).trans hx5⟩
      | cons t ts =>
        rw [hs] at hi5
        have hi6 : Ints w5 pa [t] := hi5
        obtain ⟨b2', o2', rfl, t0⟩ := hi6.at 0 (by simp)
        rw [Nat.add_zero] at t0
        have ht0 : nth [t] 0 = t := rfl
        rw [ht0] at t0
        have ht96 : 0 ≤ t ∧ t ≤ 96 := hbd.2 t (by rw [hs]; simp)
        have hf2 : Hid (∀ j, j < k + 1 → 0 < (startsS ha (cth l j) 0).length) := fun j hj => by
          rcases Nat.lt_succ_iff_lt_or_eq.1 hj with h | h
          · exact hf.out j h
          · rw [h, hs]; simp
        have e1 : IntKind.i64.wrap (leastTo l (leftS ha l 0) k + IntKind.i64.wrap ((cth l k).we * IntKind.i64.wrap (t + (cth l k).ho))) = leastTo l (leftS ha l 0) (k + 1) := by
          have q1 := we_bd (HV.out.cb k hlt) ht96.1 ht96.2
          have q2 := startsS_lt HV.out hk hf.out
          have q3 := (HV.out.cb k hlt).ho0; have q4 := (HV.out.cb k hlt).ho1
          rw [IntWalk.i64_in (t + (cth l k).ho) (by omega), IntWalk.i64_in ((cth l k).we * (t + (cth l k).ho)) (by omega), IntWalk.i64_in _ (by omega)]
          simp only [leastTo]
          rw [hlth, hs]; rfl
        have E1 := Lib.hid e1
        have hw5 := hx3.trans hx5
        replace c2 := fun W (h : Ext w5 W) => c2 W (hw5.trans h)
        replace c6 := fun W (h : Ext w5 W) => c6 W (hw5.trans h)
        have hq0 := Ext.refl w5
        clear e1 hs hi5 hi6 hlth hbd ht96 ht0 c0 c1 c3 c4 c5
        simp only [allSl, stFound, Option.isSome_some, List.length_cons, List.length_nil]
        go_wp2_with (fail)
        refine wp_region_ext (by kernel_rfl) (by kernel_rfl) hq0 ?_
        repeat (quiet_step (fail))
        refine wpQuiet_nil ?_
        rintro _ ⟨nq, rfl⟩
        have hq := nq.ok
        rw [E1.out]
        go_wp2_with (fail)
        go_roundw
        case rel => exact ⟨k + 1, by omega, by go_num, rfl, hw5.trans hq, hf2⟩
        case measure => simp [intOf]; omega
    · obtain rfl : k = l.length := by omega
      have hz : bndT ha l = leastTo l (leftS ha l 0) l.length ∧ anyEmpty (leftS ha l 0) = false := by
        have := anyEmpty_no (left := leftS ha l 0) fun j hj => by rw [leftS_len] at hj; rw [lth_leftS _ _ _ _ hj]; exact hf.out j hj
        rw [bndT, this]; exact ⟨rfl, rfl⟩
      have HZ := Lib.hid hz
      clear hz
      go_wp2_with (fail)
      go_ret2
      exact ⟨by rw [HZ.out.1, HZ.out.2]; rfl, he.trans hr⟩
end Go.Proofs.Ytjpgignbjkgjiaa
end
section
set_option linter.unusedVariables false
set_option linter.unusedSimpArgs false
namespace Go.Proofs.Ytjpgignbjkgjiaa
open Go.RowKit
def RetB (ha : Hal) (l : List Camp) (w : World) (e : Ending) (w' : World) : Prop :=
  ∃ a c, e = .returned (.tuple #[.slice a (bestP ha l).length c, .int .i64 (bestK ha l), .int .i64 (bestE ha l)]) ∧ Ext w w' ∧ Ints w' a (bestP ha l)
theorem Best_any2 (ha : Hal) (x : HP) (l : List Camp) (la : Option Addr) (lc : Nat) (w : World) (hh : HallAt w ha x) (hl : Camps w la l) : Calls Try.prog 31 #[hval ha x, .slice la l.length lc] w (RetB ha l w) := by
  refine (Best_any ha x l la lc w hh hl).mono fun e w' ⟨a, c, he, hx, hi⟩ => ?_
  by_cases h1 : campsB ha l = true
  · by_cases h2 : l.length ≤ 4
    · have hi2 := hi h1 h2
      have e1 : bestP ha l = stP (bestSt ha l) := by rw [bestP, if_pos h1, if_pos h2]
      have e2 : bestK ha l = stCost (bestSt ha l) := by rw [bestK, if_pos h1, if_pos h2]
      have e3 : bestE ha l = if stFound (bestSt ha l) then 0 else 101 := by rw [bestE, if_pos h1, if_pos h2]
      have e4 : bestV ha l a c = solV (bestSt ha l) a c := by rw [bestV, if_pos h1, if_pos h2]
      rw [he, e4]
      unfold RetB
      rw [e1, e2, e3]
      cases hs : bestSt ha l with
      | none => exact ⟨none, 0, rfl, hx, .inl rfl⟩
      | some pc =>
        obtain ⟨p, k⟩ := pc
        rw [hs] at hi2
        exact ⟨a, c, rfl, hx, hi2⟩
    · rw [he, bestV, if_pos h1, if_neg h2]
      unfold RetB
      rw [bestP, bestK, bestE, if_pos h1, if_pos h1, if_pos h1, if_neg h2, if_neg h2, if_neg h2]
      exact ⟨none, 0, rfl, hx, .inl rfl⟩
  · rw [he, bestV, if_neg h1]
    unfold RetB
    rw [bestP, bestK, bestE, if_neg h1, if_neg h1, if_neg h1]
    exact ⟨none, 0, rfl, hx, .inl rfl⟩
end Go.Proofs.Ytjpgignbjkgjiaa
end
