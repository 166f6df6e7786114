/-
  The document's energy of an hour, and its rooms.
-/
import Derived.Test.YtjpgignbjkgjiaaR2
import Derived.Test.YtjpgignbjkgjiaaR23
set_option linter.unusedVariables false
set_option linter.unusedSimpArgs false
namespace Go.Proofs.Ytjpgignbjkgjiaa
open Go.RowKit
attribute [local go_sem ↓] Go.wp_at_zero Go.wp_at_succ
theorem enD_some {l : List Camp} {p : List Int} {hour k : Nat} (hk : k < l.length) (h : runB (cth l k) (nth p k) hour = true) (hf : ∀ j, j < k → runB (cth l j) (nth p j) hour = false) : enD l p hour = (cth l k).en := by
  unfold enD; rw [fIdx_some hk h hf]
theorem enD_none {l : List Camp} {p : List Int} {hour : Nat} (hf : ∀ j, j < l.length → runB (cth l j) (nth p j) hour = false) : enD l p hour = 0 := by
  unfold enD; rw [fIdx_none hf]
set_option maxHeartbeats 1000000 in
theorem energy_any (l : List Camp) (la : Option Addr) (lc : Nat) (p : List Int) (pa : Option Addr) (pn pc : Nat) (hour : Nat) (w : World) (hl : Camps w la l) (hp : Ints w pa p) (hpl : l.length ≤ p.length) (hpn : p.length = pn) (hl16 : l.length ≤ 1000)
    (ht : ∀ i, i < l.length → -1000 ≤ nth p i ∧ nth p i ≤ 1000) (hh : hour ≤ 1000) :
    Calls Try.prog 45 #[.slice la l.length lc, .slice pa pn pc, .int .i64 hour] w (Ret (.int .i64 (enD l p hour)) w) := by
  have HT := Lib.hid ht; clear ht
  have HPN := Lib.hid hpn; clear hpn
  have hpl' : l.length ≤ pn := by rw [← HPN.out]; exact hpl
  go_enter Try.func45, Try.ntmps45
  go_wp2_with (fail)
  go_loopw [7] (fun i wr => ∃ k : Nat, k ≤ l.length ∧ i = .int .i64 k ∧ Ext w wr ∧ Hid (∀ j, j < k → runB (cth l j) (nth p j) hour = false)) (fun i _ => l.length - (intOf i).toNat)
  case atStart => exact ⟨0, Nat.zero_le _, rfl, Ext.refl _, fun j hj => by omega⟩
  case round =>
    obtain ⟨k, hk, rfl, hr, hf⟩ := hrel
    by_cases hlt : k < l.length
    · obtain ⟨b, o, rfl, c0, c1, c2, c3, c4, c5, c6⟩ := hl.at k hlt
      obtain ⟨b', o', rfl, d0⟩ := hp.at k (by omega)
      have hkp : k < pn := by omega
      go_wp2_with (fail)
      refine wp_region_ext (by kernel_rfl) (by kernel_rfl) hr ?_
      repeat (go_big_quiet_step ((go_at_call 50; exact Calls.later (runs_any _ _ _ _ (HT.out k hlt) (by omega)))))
      refine wpQuiet_nil ?_
      rintro _ ⟨nq, rfl⟩
      have hr3 := nq.ok
      cases T : runB (cth l k) (nth p k) hour
      · have hf2 := Lib.hid (all_lt_succ (q := fun j => runB (cth l j) (nth p j) hour) hf.out T)
        go_wp2_with (fail)
        go_roundw
        case rel => exact ⟨k + 1, by omega, by go_num, hr3, hf2⟩
        case measure => simp [intOf]; omega
      · have HE := Lib.hid (enD_some hlt T hf.out)
        go_wp2_with (fail)
        go_ret
        exact ⟨by rw [HE.out]; rfl, hr3⟩
    · obtain rfl : k = l.length := by omega
      have HE := Lib.hid (enD_none hf.out)
      go_wp2_with (fail)
      go_ret
      exact ⟨by rw [HE.out]; rfl, hr⟩
/-- Who has begun, at the campaign i of an hour. -/
def osD (l : List Camp) (p : List Int) (h i : Nat) : List Nat := ordD l p h ++ (List.range i).filter (beginB l p h)
theorem osD_zero (l : List Camp) (p : List Int) (h : Nat) : osD l p h 0 = ordD l p h := by simp [osD]
theorem osD_end (l : List Camp) (p : List Int) (h : Nat) : osD l p h l.length = ordD l p (h + 1) := by rw [ordD_succ]; rfl
theorem osD_yes {l : List Camp} {p : List Int} {h i : Nat} (hb : beginB l p h i = true) : osD l p h (i + 1) = osD l p h i ++ [i] := by
  unfold osD; rw [List.range_succ, List.filter_append, List.append_assoc]; simp [hb]
theorem osD_no {l : List Camp} {p : List Int} {h i : Nat} (hb : beginB l p h i = false) : osD l p h (i + 1) = osD l p h i := by
  unfold osD; rw [List.range_succ, List.filter_append]; simp [hb]
theorem osD_not {l : List Camp} {p : List Int} {h i : Nat} (hb : beginB l p h i = true) : i ∉ osD l p h i := by
  simp only [beginB, Bool.and_eq_true, beq_iff_eq] at hb
  unfold osD
  rw [List.mem_append, mem_ordD, List.mem_filter, List.mem_range]
  omega
theorem stD_not {l : List Camp} {p : List Int} {n : Nat} {R : Nat → Int} {i : Nat} : ∀ (m : Nat) (os : List Nat), os.length = m → i ∉ os → stD l p n R os i = R i
  | 0, os, hm, _ => by obtain rfl := List.length_eq_zero_iff.1 hm; rfl
  | m + 1, os, hm, h => by
    rcases List.eq_nil_or_concat os with rfl | ⟨a, j, rfl⟩
    · simp at hm
    rw [List.concat_eq_append] at *
    rw [stD_snoc]
    have ih := stD_not (l := l) (p := p) (n := n) (R := R) m a (by simpa using hm) (fun q => h (List.mem_append_left _ q))
    have hj : i ≠ j := fun e => h (by rw [e]; simp)
    show stepD l p n (bg l p j) (stD l p n R a) j i = R i
    rw [← ih]
    unfold stepD
    cases freeD l p n (stD l p n R a) j (bg l p j) with
    | none => rfl
    | some r => simp only [updN]; rw [if_neg hj]
/-- While the rooms are gone through. -/
def stageD (l : List Camp) (p : List Int) (n : Nat) (hour : Int) (R : Nat → Int) (i q : Nat) (cur : Nat → Int) : Prop :=
  (cur = R ∧ ∀ r, r < q → takenB l p R r i hour = true) ∨ (∃ r, r < n ∧ cur = updN R i r ∧ stepD l p n hour R i = updN R i r)
theorem stageD_free {l : List Camp} {p : List Int} {n : Nat} {hour : Int} {R : Nat → Int} {i q : Nat} (hq : q < n) (hf : ∀ r, r < q → takenB l p R r i hour = true) (h : takenB l p R q i hour = false) : stepD l p n hour R i = updN R i q := by
  have : freeD l p n R i hour = some q := fIdx_some hq (by simp [h]) fun j hj => by simp [hf j hj]
  unfold stepD; rw [this]
theorem stageD_none {l : List Camp} {p : List Int} {n : Nat} {hour : Int} {R : Nat → Int} {i : Nat} (hf : ∀ r, r < n → takenB l p R r i hour = true) : stepD l p n hour R i = R := by
  have : freeD l p n R i hour = none := fIdx_none fun j hj => by simp [hf j hj]
  unfold stepD; rw [this]
theorem takenB_to (l : List Camp) (p : List Int) (R : Nat → Int) (r i : Nat) (hour : Int) : takenB l p R r i hour = orTo (fun k => (!(k == i) && (R k == (r : Int))) && prepB (cth l k) (nth p k) hour) l.length := rfl
set_option maxRecDepth 100000 in
set_option maxHeartbeats 8000000 in
theorem refRooms (ha : Hal) (x : HP) (l : List Camp) (la : Option Addr) (lc : Nat) (p : List Int) (pa : Option Addr) (pn pc : Nat) (w : World) (hh : HallAt w ha x) (hl : Camps w la l) (hp : Ints w pa p) (hpl : p.length = l.length) (hpn : p.length = pn)
    (hv : VH ha l) (hbr : (breachS ha l p).ru = 0) :
    Calls Try.prog 44 #[hval ha x, .slice la l.length lc, .slice pa pn pc] w (RetI (fl l.length (roomF ha l p)) w) := by
  have HV := Lib.hid hv; have HBR := Lib.hid hbr
  have HPN := Lib.hid hpn
  have hpl2 : l.length ≤ pn := by omega
  have hl16 := hv.ll
  have hn96 := hv.n2
  have hbd : Hid (∀ i, i < l.length → (0 ≤ nth p i ∧ nth p i ≤ 96) ∧ 0 ≤ (cth l i).pr ∧ (cth l i).pr ≤ 24) := fun i hi => by
    have := bg_in hv hbr hi
    exact ⟨⟨by omega, by omega⟩, (hv.cb i hi).pr0, (hv.cb i hi).pr1⟩
  obtain ⟨nr, hnr⟩ := Int.eq_ofNat_of_zero_le (show 0 ≤ ha.ro by have := hv.r0; omega)
  have HNR := Lib.hid hnr
  have HDOC : Hid (stD l p nr (fun _ => -1) (ordD l p ha.st.length) = roomF ha l p) := by
    have := roomF_doc hv hbr
    rw [hnr, Int.toNat_natCast] at this; exact this
  have hnr4 : nr ≤ 4 := by have := hv.r1; omega
  have HL := Lib.hid hl; have HP' := Lib.hid hp
  obtain ⟨sa, sc, ea, ec⟩ := x
  clear hh hl hp hv hbr hpn hpl hnr
  go_enter Try.func44, Try.ntmps44
  go_upto_region 1 with fail
  generalize hw1 : World.alloc _ _ = w1
  obtain ⟨he, o1, hz⟩ := alloc1 hw1
  obtain ⟨b0, b1, b2, b3⟩ := obj_cells4 o1
  rw [HNR.out] at b0
  clear hw1 o1 b1 b3 hz
  go_upto_region 2 with fail
  generalize hw2 : World.alloc _ _ = w2
  obtain ⟨he2, o2, hz2⟩ := alloc1 hw2
  obtain ⟨B, hB⟩ : ∃ B, B = w1.heap.size := ⟨_, rfl⟩
  rw [← hB] at o2
  have hown0 : Hid (OwnI w2 B (.slice (some ⟨B, 0, none⟩) 0 0) []) := ownsRow_empty o2 (Nat.le_refl _)
  have hB1 : w1.heap.size ≤ B := by omega
  have hB2 : B < w2.heap.size := by omega
  clear hw2 o2 hz2
  have hr2 := he2
  go_wp2_with (fail)
  rw [← hB]
  have hwB : w.heap.size ≤ B := by have := he.size; omega
  clear hB
  go_loopw [7, 8] (fun o i wr => ∃ k : Nat, k ≤ l.length ∧ i = .int .i64 k ∧ Ext w1 wr ∧ B < wr.heap.size ∧ Hid (OwnI wr B o (fl k fun _ => -1))) (fun _ i _ => l.length - (intOf i).toNat)
  case atStart => exact ⟨0, Nat.zero_le _, rfl, hr2, hB2, hown0.out⟩
  case round =>
    clear hr2 hB2 hown0
    obtain ⟨k, hk, rfl, hr, hwB2, hown⟩ := hrel
    by_cases hlt : k < l.length
    · go_upto_region 5 with fail
      have happ := app_ints (wr.alloc (.cells #[.int .i64 (-1)] 3)) B 22 _ _ [-1] (some ⟨wr.heap.size, 0, none⟩) 1 (hown.out.ext ((Ext.refl wr).alloc _)) (ints_one (heap_new _ _))
        (by rw [fl_len]; simp; omega) (by rw [heap_size]; omega)
      have e1 : fl k (fun _ => -1) ++ [-1] = fl (k + 1) (fun _ => -1) := by unfold fl; rw [List.range_succ]; simp
      rw [e1] at happ
      have HA := Lib.hid happ
      have hblk := own_block hown.out
      clear happ e1
      go_wp2_with (at_builtin; refine wpList_app _ rfl _ _ 22 rfl _ HA.out ?_; rintro v' w' ⟨hv, hg⟩; have hge := grown_ext (hr.alloc _) hg (fun q hq => Nat.le_trans hB1 (hblk q hq)); have hgs := hg.size; rw [heap_size] at hgs; have HV' := Lib.hid hv; clear HA hg hv)
      go_roundw
      case rel => exact ⟨k + 1, by omega, by go_num, hge, by omega, HV'⟩
      case measure => simp [intOf]; omega
    · obtain rfl : k = l.length := by omega
      obtain ⟨oa, on, oc, rfl⟩ := own_slice hown.out
      obtain rfl : on = l.length := by rw [hown.out.ints.2.1, fl_len]
      have e0 : fl l.length (fun _ => (-1 : Int)) = fl l.length (stD l p nr (fun _ => -1) (ordD l p 0)) := rfl
      rw [e0] at hown
      have HO0 := Lib.hid hown.out
      have hr0 := hr
      clear e0 hown
      go_wp2_with (fail)
      go_loopw [9] (fun i wr => ∃ h : Nat, h ≤ ha.st.length ∧ i = .int .i64 h ∧ Ext w1 wr ∧ Hid (OwnI wr B (.slice oa l.length oc) (fl l.length (stD l p nr (fun _ => -1) (ordD l p h))))) (fun i _ => ha.st.length - (intOf i).toNat)
      case atStart => exact ⟨0, Nat.zero_le _, rfl, hr0, HO0.out⟩
      case round =>
        clear hr0 HO0 hr hwB2
        obtain ⟨h, hh, rfl, hr, hown⟩ := hrel
        by_cases hlt : h < ha.st.length
        · rw [← osD_zero l p h] at hown
          go_wp2_with (fail)
          try rw [show decide ((h : Int) < (ha.st.length : Int)) = true from decide_eq_true (by omega)]
          obtain ⟨wo, rfl⟩ : ∃ wo : World, wo = wr := ⟨_, rfl⟩
          go_loopw [10] (fun i wr => ∃ i' : Nat, i' ≤ l.length ∧ i = .int .i64 i' ∧ Ext w1 wr ∧ Hid (OwnI wr B (.slice oa l.length oc) (fl l.length (stD l p nr (fun _ => -1) (osD l p h i'))))) (fun i _ => l.length - (intOf i).toNat)
          case atStart => exact ⟨0, Nat.zero_le _, rfl, hr, hown.out⟩
          case round =>
            clear hr hown
            obtain ⟨i, hi, rfl, hr, hown⟩ := hrel
            by_cases hil : i < l.length
            · obtain ⟨bc, o, rfl, c0, c1, c2, c3, c4, c5, c6⟩ := HL.out.at i hil
              obtain ⟨bp, op, rfl, d0⟩ := HP'.out.at i (by rw [HPN.out]; omega)
              have hE := he.trans hr
              have hip : i < pn := by omega
              have hbdi := hbd.out i hil
              obtain ⟨⟨x1, x2⟩, x3, x4⟩ := hbdi
              have c1' := fun W (h : Ext wr W) => c1 W (hE.trans h)
              have d0' := fun W (h : Ext wr W) => d0 W (hE.trans h)
              have hrr := Ext.refl wr
              have hsp : (((cth l i).pr == 0) = true ∧ beginB l p h i = false) ∨ (((cth l i).pr == 0) = false ∧ (nth p i - (cth l i).pr != (h : Int)) = true ∧ beginB l p h i = false) ∨
                  (((cth l i).pr == 0) = false ∧ (nth p i - (cth l i).pr != (h : Int)) = false ∧ beginB l p h i = true) := by
                have hbe : beginB l p h i = (!((cth l i).pr == 0) && (nth p i - (cth l i).pr == (h : Int))) := rfl
                rw [hbe, bne]
                cases ((cth l i).pr == 0) <;> cases (nth p i - (cth l i).pr == (h : Int)) <;> simp
              clear c0 c1 c2 c3 c4 c5 c6
              rcases hsp with ⟨A1, A3⟩ | ⟨A1, A2, A3⟩ | ⟨A1, A2, A3⟩
              iterate 2
                · rw [← osD_no A3] at hown
                  clear A3
                  go_wp2_with (fail)
                  refine wp_region_ext (by kernel_rfl) (by kernel_rfl) hrr ?_
                  repeat (first | go_big_quiet_step (fail) | quiet_step (fail))
                  refine wpQuiet_nil ?_
                  rintro _ ⟨nq, rfl⟩
                  have hq := hr.trans nq.ok
                  have HO := Lib.hid (hown.out.ext nq.ok)
                  go_wp2_with (fail)
                  go_roundw
                  case rel => exact ⟨i + 1, by omega, by go_num, hq, HO⟩
                  case measure => simp [intOf]; omega
              · rcases hown.out.2 with ⟨hv0, hz0⟩ | ⟨g, cap, cur0, hv0, hgB, -⟩
                · rw [fl_len] at hz0; omega
                simp only [Value.slice.injEq] at hv0
                obtain ⟨rfl, -, rfl⟩ := hv0
                have hbg : bg l p i = (h : Int) := by unfold bg; simpa using A2
                have hRi := Lib.hid (stD_not (l := l) (p := p) (n := nr) (R := fun _ => -1) _ (osD l p h i) rfl (osD_not A3))
                have hRn : Hid (stD l p nr (fun _ => -1) (osD l p h (i + 1)) = stepD l p nr h (stD l p nr (fun _ => -1) (osD l p h i)) i) := by rw [Hid, osD_yes A3, stD_snoc, hbg]
                obtain ⟨R, hR⟩ : ∃ R, R = stD l p nr (fun _ => -1) (osD l p h i) := ⟨_, rfl⟩
                rw [← hR] at hown hRi hRn
                clear A3 hR hbg
                go_wp2_with (fail)
                refine wp_region_ext (by kernel_rfl) (by kernel_rfl) hrr ?_
                repeat (first | go_big_quiet_step (fail) | quiet_step (fail))
                refine wpQuiet_nil ?_
                rintro _ ⟨nq, rfl⟩
                have hr5 := hr.trans nq.ok
                have hown5 := Lib.hid (hown.out.ext nq.ok)
                clear hown hr c1' d0' hrr hE d0
                generalize nq.val = w5 at *
                clear nq
                go_wp2_with (fail)
                go_loopw [11] (fun v wr => ∃ (q : Nat) (cur : Nat → Int), q ≤ nr ∧ v = .int .i64 q ∧ Ext w1 wr ∧ Hid (OwnI wr B (.slice (some ⟨g, 0, none⟩) l.length oc) (fl l.length cur)) ∧ Hid (stageD l p nr h R i q cur)) (fun v _ => nr - (intOf v).toNat)
                case atStart => exact ⟨0, R, Nat.zero_le _, rfl, hr5, hown5.out, .inl ⟨rfl, fun r hr => by omega⟩⟩
                case round =>
                  clear hr5 hown5
                  obtain ⟨q, cur, hq, rfl, hr, hown, hst⟩ := hrel
                  have b0' := fun W (h : Ext wr W) => b0 W (hr.trans h)
                  have hrr := Ext.refl wr
                  have hcl := ownI_cell (fl_len _ _) hown.out i hil
                  rw [nth_fl _ _ _ hil] at hcl
                  by_cases hqn : q < nr
                  · rcases hst.out with ⟨rfl, htk⟩ | ⟨r, hrn, rfl, hstep⟩
                    · have hRi1 : cur i = -1 := hRi.out
                      rw [hRi1] at hcl
                      have HTK := Lib.hid htk
                      clear htk hst hRi1
                      go_wp2_with (fail)
                      obtain ⟨wo, rfl⟩ : ∃ wo : World, wo = wr := ⟨_, rfl⟩
                      go_loopw [12, 13] (fun t v wr => ∃ k : Nat, k ≤ l.length ∧ v = .int .i64 k ∧ t = .bool (orTo (fun k => (!(k == i) && (cur k == (q : Int))) && prepB (cth l k) (nth p k) h) k) ∧ Ext wo wr) (fun _ v _ => l.length - (intOf v).toNat)
                      case atStart => exact ⟨0, Nat.zero_le _, rfl, rfl, hrr⟩
                      case round =>
                        clear b0' hrr hcl
                        obtain ⟨k, hk, rfl, rfl, hr9⟩ := hrel
                        have hrr := Ext.refl wr
                        by_cases hkl : k < l.length
                        · obtain ⟨bc', o', e1, c0, c1, c2, c3, c4, c5, c6⟩ := HL.out.at k hkl
                          obtain ⟨rfl, rfl⟩ : bc = bc' ∧ o = o' := by simpa using e1
                          obtain ⟨bp', op', e2, d0⟩ := HP'.out.at k (by rw [HPN.out]; omega)
                          obtain ⟨rfl, rfl⟩ : bp = bp' ∧ op = op' := by simpa using e2
                          have hkp : k < pn := by omega
                          have hE := he.trans (hr.trans hr9)
                          have hck := fun W (h : Ext wr W) => (hr9.trans h).cell (ownI_cell (fl_len _ _) hown.out k hkl)
                          rw [nth_fl _ _ _ hkl] at hck
                          have HTB := (hbd.out k hkl).1
                          have hst : orTo (fun k => (!(k == i) && (cur k == (q : Int))) && prepB (cth l k) (nth p k) h) (k + 1) = (orTo (fun k => (!(k == i) && (cur k == (q : Int))) && prepB (cth l k) (nth p k) h) k || ((!(k == i) && (cur k == (q : Int))) && prepB (cth l k) (nth p k) h)) := rfl
                          have hki : ((k : Int) != (i : Int)) = !(k == i) := by
                            rw [Bool.eq_iff_iff]; simp; omega
                          obtain ⟨bb, hbb⟩ : ∃ bb, bb = orTo (fun k => (!(k == i) && (cur k == (q : Int))) && prepB (cth l k) (nth p k) h) k := ⟨_, rfl⟩
                          obtain ⟨nx, hnx⟩ : ∃ nx, nx = orTo (fun k => (!(k == i) && (cur k == (q : Int))) && prepB (cth l k) (nth p k) h) (k + 1) := ⟨_, rfl⟩
                          rw [← hbb, ← hnx, ← hki] at hst
                          rw [← hbb]
                          have HNX := Lib.hid hnx
                          have hsp : (bb = true ∧ nx = true) ∨ (bb = false ∧ ((k : Int) != (i : Int)) = false ∧ nx = false) ∨ (bb = false ∧ ((k : Int) != (i : Int)) = true ∧ (cur k == (q : Int)) = false ∧ nx = false) ∨
                              (bb = false ∧ ((k : Int) != (i : Int)) = true ∧ (cur k == (q : Int)) = true ∧ prepB (cth l k) (nth p k) h = nx) := by
                            rw [hst]
                            cases bb <;> cases ((k : Int) != (i : Int)) <;> cases (cur k == (q : Int)) <;> simp
                          clear hst hki hbb hnx e1 e2
                          go_upto_region 20 with fail
                          replace c0 := fun W (h : Ext wr W) => c0 W (hE.trans h)
                          replace c1 := fun W (h : Ext wr W) => c1 W (hE.trans h)
                          replace c2 := fun W (h : Ext wr W) => c2 W (hE.trans h)
                          replace c3 := fun W (h : Ext wr W) => c3 W (hE.trans h)
                          replace c4 := fun W (h : Ext wr W) => c4 W (hE.trans h)
                          replace c5 := fun W (h : Ext wr W) => c5 W (hE.trans h)
                          replace c6 := fun W (h : Ext wr W) => c6 W (hE.trans h)
                          replace d0 := fun W (h : Ext wr W) => d0 W (hE.trans h)
                          rcases hsp with ⟨rfl, rfl⟩ | ⟨rfl, A4, rfl⟩ | ⟨rfl, A4, A5, rfl⟩ | ⟨rfl, A4, A5, A6⟩
                          all_goals
                            refine wp_region_ext (by kernel_rfl) (by kernel_rfl) hrr ?_
                            repeat (first | go_big_quiet_step ((go_at_call 51; exact Calls.later (prepares_any _ _ _ _ (by omega) (by omega)))))
                            refine wpQuiet_nil ?_
                            rintro _ ⟨nq, rfl⟩
                            have hq9 := hr9.trans nq.ok
                            go_wp2_with (fail)
                            go_roundw
                            case rel => exact ⟨k + 1, by omega, by go_num, by first | rw [← HNX.out] | rw [A6, ← HNX.out], hq9⟩
                            case measure => simp [intOf]; omega
                        · obtain rfl : k = l.length := by omega
                          rw [← takenB_to]
                          have hr1 := hr.trans hr9
                          have hown1 := Lib.hid (hown.out.ext hr9)
                          cases T : takenB l p cur q i h
                          · have hfr := ownI_free (fl_len _ _) hown1.out i
                            have hcl := ownI_cell (fl_len _ _) hown1.out i hil
                            have HO := Lib.hid (ownI_set (j := i) hown1.out (q : Int))
                            have hr2 := hr1.set (p := ⟨g, i, none⟩) (by simp; omega) (.int .i64 (q : Int))
                            have hstg : Hid (stageD l p nr h cur i (q + 1) (updN cur i (q : Int))) := .inr ⟨q, hqn, rfl, stageD_free hqn HTK.out T⟩
                            clear hown hown1
                            go_wp2_with (fail)
                            go_roundw
                            case rel => exact ⟨q + 1, updN cur i (q : Int), by omega, by go_num, hr2, HO.out, hstg⟩
                            case measure => simp [intOf]; omega
                          · have hstg : Hid (stageD l p nr h cur i (q + 1) cur) := .inl ⟨rfl, all_lt_succ HTK.out T⟩
                            clear hown
                            go_wp2_with (fail)
                            go_roundw
                            case rel => exact ⟨q + 1, cur, by omega, by go_num, hr1, hown1.out, hstg⟩
                            case measure => simp [intOf]; omega
                    · have hRi2 : updN R i (r : Int) i = (r : Int) := by simp [updN]
                      rw [hRi2] at hcl
                      rw [← hstep, ← hRn.out] at hown
                      have HO := Lib.hid hown.out
                      clear hown hRi2 hst hstep
                      go_wp2_with (fail)
                      go_roundw
                      case rel => exact ⟨i + 1, by omega, by go_num, hr, HO⟩
                      case measure => simp [intOf]; omega
                  · obtain rfl : q = nr := by omega
                    have hfin : cur = stD l p q (fun _ => -1) (osD l p h (i + 1)) := by
                      rw [hRn.out]
                      rcases hst.out with ⟨rfl, htk⟩ | ⟨r, hrn, rfl, hstep⟩
                      · exact (stageD_none htk).symm
                      · exact hstep.symm
                    rw [hfin] at hown
                    have HO := Lib.hid hown.out
                    clear hown hfin hst hcl
                    go_wp2_with (fail)
                    go_roundw
                    case rel => exact ⟨i + 1, by omega, by go_num, hr, HO⟩
                    case measure => simp [intOf]; omega
            · obtain rfl : i = l.length := by omega
              rw [osD_end] at hown
              have HO := Lib.hid hown.out
              clear hown
              go_wp2_with (fail)
              go_roundw
              case rel => exact ⟨h + 1, by omega, by go_num, hr, HO⟩
              case measure => simp [intOf]; omega
        · obtain rfl : h = ha.st.length := by omega
          rw [HDOC.out] at hown
          have HO := Lib.hid hown.out
          clear hown
          go_wp2_with (fail)
          go_ret
          exact ⟨oa, oc, by rw [fl_len]; rfl, he.trans hr, by rw [fl_len]; exact own_down HO.out hwB⟩
end Go.Proofs.Ytjpgignbjkgjiaa
