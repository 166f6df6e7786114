import Derived.Test.YtjpgignbjkgjiaaR17
import Derived.Test.YtjpgignbjkgjiaaP16
import Derived.Test.YtjpgignbjkgjiaaA18
import Derived.Deep.DeepCutAuto
set_option linter.unusedVariables false
set_option linter.unusedSimpArgs false
namespace Go.Proofs.Ytjpgignbjkgjiaa
open Go.RowKit
theorem plans_nil (B : Nat) (w : World) : PlansB B w (.slice none 0 0) [] := ⟨[], rfl, World.ownsRow_nil _ _ _ _, fun j hj => by simp at hj⟩
theorem Camps.sub {w : World} {b o : Nat} {l : List Camp} (h : Camps w (some ⟨b, o, none⟩) l) {i : Nat} (hi : i < l.length) : Camps w (some ⟨b, o + i * 7, none⟩) [cth l i] := by
  obtain ⟨b', o', he, c0, c1, c2, c3, c4, c5, c6⟩ := h.at i hi
  simp only [Option.some.injEq, Addr.mk.injEq, and_true] at he
  obtain ⟨rfl, rfl⟩ := he
  refine .inr ⟨b, o + i * 7, rfl, fun j hj => ?_⟩
  obtain rfl : j = 0 := by simp at hj; omega
  have e := Ext.refl w
  exact ⟨c0 w e, c1 w e, c2 w e, c3 w e, c4 w e, c5 w e, c6 w e⟩
theorem intsT_one {w : World} {b : Nat} {t : Int} {fz : Nat × Nat} (h : w.heap[b]? = some (.cells #[.int .i64 t] 3 fz)) : IntsT w (some ⟨b, 0, none⟩) [t] := by
  refine .inr ⟨b, 0, _, fz, rfl, h, fun i hi => ?_⟩
  obtain rfl : i = 0 := by simp at hi; omega
  exact obj_cells1 h w (Ext.refl w)
def RetRp (ha : Hal) (l : List Camp) (p : List Int) (now : Int) (w : World) (e : Ending) (w' : World) : Prop :=
  ∃ a c, e = .returned (.tuple #[.slice a (rpP ha l p now).length c, .int .i64 (rpK ha l p now), .int .i64 (rpE ha l p now)]) ∧ Ext w w' ∧ Ints w' a (rpP ha l p now)
set_option maxRecDepth 100000 in
set_option maxHeartbeats 8000000 in
theorem Replan_any (ha : Hal) (x : HP) (l : List Camp) (la : Option Addr) (lc : Nat) (p : List Int) (pa : Option Addr) (pn pc : Nat) (now : Int) (w : World) (hh : HallAt w ha x) (hl : Camps w la l) (hp : Ints w pa p) (hpn : p.length = pn) (hcap : l.length ≤ lc) (hlcm : lc ≤ maxLen) :
    Calls Try.prog 25 #[hval ha x, .slice la l.length lc, .slice pa pn pc, .int .i64 now] w (RetRp ha l p now w) := by
  have hcheck := fun W (h : Ext w W) => check_any ha x l la lc pa pn pc W (hh.ext h) (hl.ext h)
  have hst := fun (hv : VH ha l) (h0 : 0 ≤ now) (h1 : now ≤ 1000) W (h : Ext w W) i (hi : i < l.length) => starts_any ha x (cth l i) now l W (hh.ext h) hv (hv.cb i hi) h0 h1
  have hsi := fun (hv : VH ha l) W (h : Ext w W) i (hi : i < l.length) a ac t pa pc (q1 : Camps W a [cth l i]) (q2 : Ints W pa [t]) => single_any ha x [cth l i] a ac [t] pa 1 pc W (hh.ext h) q1 q2 (by simp) rfl (hv.one (hv.cb i hi))
  have hso := fun (hv : VH ha l) W (h : Ext w W) ss a c => solve_any ha x l la lc ss a c W hv (hh.ext h) (hl.ext h)
  have HC := Lib.hid hcheck; have HST := Lib.hid hst; have HSI := Lib.hid hsi; have HSO := Lib.hid hso
  have HPN := Lib.hid hpn
  have HL := Lib.hid hl; have HP' := Lib.hid hp
  clear hcheck hst hsi hso hpn hh hl hp
  unfold maxLen at hlcm
  obtain ⟨sa, sc, ea, ec⟩ := x
  cases T1 : (checkE ha l pn != 0)
  rotate_left
  · have hne : ¬ checkE ha l p.length = 0 := by rw [HPN.out]; simpa using T1
    have hz : rpP ha l p now = [] ∧ rpK ha l p now = 0 ∧ rpE ha l p now = checkE ha l p.length := by
      rw [rpP, rpK, rpE, if_neg hne, if_neg hne, if_neg hne]; exact ⟨rfl, rfl, rfl⟩
    have HZ := Lib.hid hz
    clear hne hz
    go_enter Try.func25, Try.ntmps25
    go_wp2_with (fail)
    generalize hw1 : World.alloc _ _ = w1
    obtain ⟨he, o1, -⟩ := alloc1 hw1
    obtain ⟨b0, b1, b2, b3⟩ := obj_cells4 o1
    clear hw1 o1
    (with_reducible refine (HC.out _ he).mono ?_); rintro e w2 ⟨rfl, he2⟩
    go_wp2_with (fail)
    go_ret3
    unfold RetRp
    rw [HZ.out.1, HZ.out.2.1, HZ.out.2.2, HPN.out]
    exact ⟨none, 0, rfl, he.trans he2, .inl rfl⟩
  · have h0n : checkE ha l pn = 0 := by simpa using T1
    have h0 : checkE ha l p.length = 0 := by rw [HPN.out]; exact h0n
    obtain ⟨hv, hpl⟩ := checkE_zero h0
    have hpnl : l.length ≤ pn := by rw [← HPN.out]; omega
    have hpl' : l.length ≤ p.length := by omega
    rw [h0n] at HC
    have HV := Lib.hid hv
    have HR : Hid ((rpE ha l p now = if wi now 0 ha.st.length then (if freeTo l p now l.length ≤ 4 then (if stFound (rpSt ha l p now) then 0 else 101) else 5) else 3) ∧
        (rpP ha l p now = if wi now 0 ha.st.length then (if freeTo l p now l.length ≤ 4 then stP (rpSt ha l p now) else []) else []) ∧
        (rpK ha l p now = if wi now 0 ha.st.length then (if freeTo l p now l.length ≤ 4 then stCost (rpSt ha l p now) else 0) else 0)) := by
      rw [rpP, rpK, rpE, if_pos h0, if_pos h0, if_pos h0]; exact ⟨rfl, rfl, rfl⟩
    have hl16 := hv.ll
    have hn96 := hv.n2
    clear h0 h0n hv hpl T1
    cases T2 : wi now 0 ha.st.length
    · have hz : rpP ha l p now = [] ∧ rpK ha l p now = 0 ∧ rpE ha l p now = 3 := by
        rw [HR.out.1, HR.out.2.1, HR.out.2.2, T2]; exact ⟨rfl, rfl, rfl⟩
      have HZ := Lib.hid hz
      clear hz
      go_enter Try.func25, Try.ntmps25
      go_wp2_with (fail)
      generalize hw1 : World.alloc _ _ = w1
      obtain ⟨he, o1, -⟩ := alloc1 hw1
      obtain ⟨b0, b1, b2, b3⟩ := obj_cells4 o1
      clear hw1 o1
      (with_reducible refine (HC.out _ he).mono ?_); rintro e w2 ⟨rfl, he2⟩
      go_wp2_with (go_at_call 48; (with_reducible refine (within_any _ _ _ _).mono ?_); rintro e w' ⟨rfl, rfl⟩)
      go_ret3
      unfold RetRp
      rw [HZ.out.1, HZ.out.2.1, HZ.out.2.2]
      exact ⟨none, 0, rfl, he.trans he2, .inl rfl⟩
    · have hnw := wi_iff.1 T2
      obtain ⟨hnow0, hnow1⟩ := hnw
      have hnow2 : now ≤ 1000 := by omega
      go_enter Try.func25, Try.ntmps25
      go_wp2_with (fail)
      generalize hw1 : World.alloc _ _ = w1
      obtain ⟨he, o1, -⟩ := alloc1 hw1
      obtain ⟨b0, b1, b2, b3⟩ := obj_cells4 o1
      clear hw1 o1
      (with_reducible refine (HC.out _ he).mono ?_); rintro e w2 ⟨rfl, he2⟩
      go_wp2_with (go_at_call 48; (with_reducible refine (within_any _ _ _ _).mono ?_); rintro e w' ⟨rfl, rfl⟩)
      rw [T2] at HR
      go_loopw [12, 13, 32] (fun v f i wr => ∃ k : Nat, k ≤ l.length ∧ i = .int .i64 k ∧ f = .int .i64 (freeTo l p now k) ∧ Ext w1 wr ∧ Hid (PlansB w1.heap.size wr v ((rpLeft ha l p now).take k))) (fun _ _ i _ => l.length - (intOf i).toNat)
      case atStart => exact ⟨0, Nat.zero_le _, rfl, rfl, he2, by rw [List.take_zero]; exact plans_nil _ _⟩
      case round =>
        clear he2
        obtain ⟨k, hk, rfl, rfl, hr, hpla⟩ := hrel
        have hfb := freeTo_bd l p now k
        obtain ⟨hfb1, hfb2⟩ := hfb
        by_cases hlt : k < l.length
        · obtain ⟨b, o, rfl, c0, c1, c2, c3, c4, c5, c6⟩ := (HL.out.ext he).at k hlt
          obtain ⟨b', o', rfl, p0⟩ := (HP'.out.ext he).at k (by omega)
          have hkp : k < pn := by omega
          have hcb := HV.out.cb k hlt
          obtain ⟨-, -, q1, q2, -, -, -, -, -, -, -, -, -⟩ := hcb
          have hplen : ((rpLeft ha l p now).take k).length ≤ 900000 := by rw [List.length_take]; omega
          have hrt := rpLeft_take ha l p now k hlt
          have HRT := Lib.hid hrt
          obtain ⟨va, vc, hv12⟩ := hpla.out.form
          subst hv12
          clear hrt
          generalize (rpLeft ha l p now).take k = pl at *
          go_wp2_with (fail)
          generalize hw3 : World.alloc _ _ = w3
          obtain ⟨he3, o1, o2, -⟩ := alloc2 hw3
          obtain ⟨a0, a1, a2, a3, a4, a5, a6⟩ := obj_cells7 o1
          have hit := intsT_one o2
          have HIT := Lib.hid hit
          clear hw3 o1 o2 c0 c1 c2 c3 c4 c5 c6 hit
          have hr3 := hr.trans he3
          have hr0 := Ext.refl w3
          replace p0 := fun W (h : Ext w3 W) => p0 W (hr3.trans h)
          have d0 := fun W (h : Ext w3 W) => b0 W (hr3.trans h)
          have d1 := fun W (h : Ext w3 W) => b1 W (hr3.trans h)
          have d2 := fun W (h : Ext w3 W) => b2 W (hr3.trans h)
          have d3 := fun W (h : Ext w3 W) => b3 W (hr3.trans h)
          have s1 : IntKind.i64.wrap (now + (cth l k).pr) = now + (cth l k).pr := IntWalk.i64_in _ (by omega)
          have hfB : freeB (cth l k) (nth p k) now = decide (now + (cth l k).pr ≤ nth p k) := rfl
          have hrL : rpL ha l p now k = if freeB (cth l k) (nth p k) now then startsS ha (cth l k) now else if okAt ha (cth l k) (nth p k) then [nth p k] else [] := rfl
          refine wp_region_ext (by kernel_rfl) (by kernel_rfl) hr0 ?_
          repeat (first | go_big_quiet_step (fail) | quiet_step (fail))
          refine wpQuiet_nil ?_
          rintro _ ⟨nq, rfl⟩
          obtain ⟨w4, hw4⟩ : ∃ w4, w4 = nq.val := ⟨_, rfl⟩
          have hq : Ext w3 w4 := hw4 ▸ nq.ok
          rw [← hw4]
          clear hw4 nq s1
          have hr4 := hr3.trans hq
          cases T : decide (now + (cth l k).pr ≤ nth p k)
          rotate_left
          · rw [hfB, T, if_pos rfl] at hrL
            have HRL := Lib.hid hrL
            have HF := Lib.hid (freeTo_yes (l := l) (p := p) (now := now) (k := k) (by rw [hfB]; exact T))
            clear hfB hrL hr0
            replace p0 := fun W (h : Ext w4 W) => p0 W (hq.trans h)
            replace d0 := fun W (h : Ext w4 W) => d0 W (hq.trans h)
            replace d1 := fun W (h : Ext w4 W) => d1 W (hq.trans h)
            replace d2 := fun W (h : Ext w4 W) => d2 W (hq.trans h)
            replace d3 := fun W (h : Ext w4 W) => d3 W (hq.trans h)
            replace a0 := fun W (h : Ext w4 W) => a0 W (hq.trans h)
            replace a1 := fun W (h : Ext w4 W) => a1 W (hq.trans h)
            replace a2 := fun W (h : Ext w4 W) => a2 W (hq.trans h)
            replace a3 := fun W (h : Ext w4 W) => a3 W (hq.trans h)
            replace a4 := fun W (h : Ext w4 W) => a4 W (hq.trans h)
            replace a5 := fun W (h : Ext w4 W) => a5 W (hq.trans h)
            replace a6 := fun W (h : Ext w4 W) => a6 W (hq.trans h)
            have hr0 := Ext.refl w4
            go_wp2_with (fail)
            (with_reducible refine (HST.out HV.out hnow0 hnow2 _ (he.trans hr4) k hlt).mono ?_); rintro e w5 ⟨ia, ic, rfl, he5, ho5⟩
            have hr5 := hr4.trans he5
            have h05 := (he3.trans hq).trans he5
            have hi5 := Lib.hid ho5.intsT
            clear ho5
            generalize startsS ha (cth l k) now = xs at *
            have happ := plans_app (w5.alloc (.cells #[.slice ia xs.length ic] 22)) w1.heap.size 62 _ pl ((hpla.out.ext h05).ext ((Ext.refl _).alloc _)) ia xs ic w5.heap.size (hi5.out.ext ((Ext.refl _).alloc _)) (heap_new _ _) hplen (by have := hr5.size; rw [heap_size]; omega)
            have HA := Lib.hid happ
            clear happ
            go_wp2_with (at_builtin; refine wpList_app _ rfl _ _ 62 rfl _ HA.out ?_; rintro v' w' ⟨hv', hg⟩; have hE' : Ext w1 w' := grown_ext (hr5.alloc _) hg hpla.out.block; have HV' := Lib.hid hv'; clear hg hv' HA)
            go_roundw
            case rel => exact ⟨k + 1, by omega, by go_num, by rw [HF.out], hE', by rw [HRT.out, HRL.out]; exact HV'.out⟩
            case measure => simp [intOf]; omega
          · have HF := Lib.hid (freeTo_no (l := l) (p := p) (now := now) (k := k) (by rw [hfB]; exact T))
            rw [hfB, T, if_neg (by simp)] at hrL
            have hsi : ∀ n : Later w4, Calls Try.prog 59 #[hval ha ⟨sa, sc, ea, ec⟩, .slice (some ⟨b, o + k * 7, none⟩) 1 (lc - k), .slice (some ⟨wr.heap.size + 1, 0, none⟩) 1 1] n.val (Ret (bval (singleS ha [cth l k] [nth p k])) n.val) := fun n =>
              HSI.out HV.out n.val ((he.trans hr4).trans n.ok) k hlt (some ⟨b, o + k * 7, none⟩) (lc - k) (nth p k) (some ⟨wr.heap.size + 1, 0, none⟩) 1 (((HL.out.sub hlt).ext (he.trans hr4)).ext n.ok) ((HIT.out.ext hq).ext n.ok).ints
            have HS1 := Lib.hid hsi
            have hoB : okAt ha (cth l k) (nth p k) = ((singleS ha [cth l k] [nth p k]).ru == 0) := rfl
            clear hfB hsi hr0
            replace d0 := fun W (h : Ext w4 W) => d0 W (hq.trans h)
            replace d1 := fun W (h : Ext w4 W) => d1 W (hq.trans h)
            replace d2 := fun W (h : Ext w4 W) => d2 W (hq.trans h)
            replace d3 := fun W (h : Ext w4 W) => d3 W (hq.trans h)
            have hr0 := Ext.refl w4
            have hk0 : (0 : Int) ≤ (k : Int) := by omega
            have hk1 : (k : Int) + 1 ≤ (lc : Int) := by omega
            have s1 : IntKind.i64.wrap ((k : Int) + 1) = (k : Int) + 1 := IntWalk.i64_in _ (by omega)
            have s2 : ((k : Int) + 1).toNat = k + 1 := by omega
            go_wp2_with (fail)
            refine wp_region_ext (by kernel_rfl) (by kernel_rfl) hr0 ?_
            repeat (first | go_big_quiet_step ((go_at_call 59; with_reducible exact Calls.later (HS1.out _))) | quiet_step ((go_at_call 59; with_reducible exact Calls.later (HS1.out _))))
            refine wpQuiet_nil ?_
            rintro _ ⟨nq, rfl⟩
            obtain ⟨w5, hw5⟩ : ∃ w5, w5 = nq.val := ⟨_, rfl⟩
            have hq5 : Ext w4 w5 := hw5 ▸ nq.ok
            rw [← hw5]
            clear hw5 nq s1 s2 hk0 hk1
            have hr5 := hr4.trans hq5
            have h05 := (he3.trans hq).trans hq5
            clear HS1 d0 d1 d2 d3
            cases T3 : ((singleS ha [cth l k] [nth p k]).ru != 0)
            · have : okAt ha (cth l k) (nth p k) = true := by rw [hoB]; simpa using T3
              rw [if_pos this] at hrL
              have HRL := Lib.hid hrL
              have hi5 := Lib.hid ((HIT.out.ext hq).ext hq5)
              clear hrL hoB this
              have happ := plans_app (w5.alloc (.cells #[.slice (some ⟨wr.heap.size + 1, 0, none⟩) [nth p k].length 1] 22)) w1.heap.size 62 _ pl ((hpla.out.ext h05).ext ((Ext.refl _).alloc _)) (some ⟨wr.heap.size + 1, 0, none⟩) [nth p k] 1 w5.heap.size (hi5.out.ext ((Ext.refl _).alloc _)) (heap_new _ _) hplen (by have := hr5.size; rw [heap_size]; omega)
              have HA := Lib.hid happ
              clear happ
              go_wp2_with (at_builtin; refine wpList_app _ rfl _ _ 62 rfl _ HA.out ?_; rintro v' w' ⟨hv', hg⟩; have hE' : Ext w1 w' := grown_ext (hr5.alloc _) hg hpla.out.block; have HV' := Lib.hid hv'; clear hg hv' HA)
              go_roundw
              case rel => exact ⟨k + 1, by omega, by go_num, by rw [HF.out], hE', by rw [HRT.out, HRL.out]; exact HV'.out⟩
              case measure => simp [intOf]; omega
            · have : ¬ okAt ha (cth l k) (nth p k) = true := by rw [hoB]; simpa using T3
              rw [if_neg this] at hrL
              have HRL := Lib.hid hrL
              have hi5 : Hid (IntsT w5 none []) := .inl rfl
              clear hrL hoB this
              have happ := plans_app (w5.alloc (.cells #[.slice none ([] : List Int).length 0] 22)) w1.heap.size 62 _ pl ((hpla.out.ext h05).ext ((Ext.refl _).alloc _)) none ([] : List Int) 0 w5.heap.size (hi5.out.ext ((Ext.refl _).alloc _)) (heap_new _ _) hplen (by have := hr5.size; rw [heap_size]; omega)
              have HA := Lib.hid happ
              clear happ
              go_wp2_with (at_builtin; refine wpList_app _ rfl _ _ 62 rfl _ HA.out ?_; rintro v' w' ⟨hv', hg⟩; have hE' : Ext w1 w' := grown_ext (hr5.alloc _) hg hpla.out.block; have HV' := Lib.hid hv'; clear hg hv' HA)
              go_roundw
              case rel => exact ⟨k + 1, by omega, by go_num, by rw [HF.out], hE', by rw [HRT.out, HRL.out]; exact HV'.out⟩
              case measure => simp [intOf]; omega
        · obtain rfl : k = l.length := by omega
          rw [List.take_of_length_le (by rw [rpLeft_len]; exact Nat.le_refl _)] at hpla
          by_cases hfr : freeTo l p now l.length ≤ 4
          rotate_left
          · have hz : rpP ha l p now = [] ∧ rpK ha l p now = 0 ∧ rpE ha l p now = 5 := by
              have h := HR.out
              simp only [if_true, if_neg hfr] at h
              exact ⟨h.2.1, h.2.2, h.1⟩
            have HZ := Lib.hid hz
            clear hz
            have hfr2 : (4 : Int) < freeTo l p now l.length := by omega
            go_wp2_with (fail)
            go_ret3
            unfold RetRp
            rw [HZ.out.1, HZ.out.2.1, HZ.out.2.2]
            exact ⟨none, 0, rfl, he.trans hr, .inl rfl⟩
          · have hR2 := HR.out
            simp only [if_true, if_pos hfr] at hR2
            replace HR := Lib.hid hR2
            clear hR2
            obtain ⟨ss', q1, q2, q3⟩ := hpla.out
            have hsl' : ss'.length = l.length := by rw [← lsts_len, q1, rpLeft_len]
            have hsl2 := Lib.hid hsl'
            obtain ⟨sla, slc, hav, hsls⟩ := sls_of_own q2 rfl fun j hj => (q3 j hj).ints
            subst hav
            have hsol := HSO.out HV.out wr (he.trans hr) ss' sla slc hsl' (by rw [q1]; exact rpLeft_bd HV.out) hsls
            rw [q1] at hsol
            change Calls _ _ _ _ (RetSol (rpSt ha l p now) wr) at hsol
            have HS := Lib.hid hsol
            clear hsol hsls q1 q2 q3 hpla hsl'
            generalize rpSt ha l p now = st at *
            go_wp2_with (fail)
            (with_reducible refine HS.out.mono ?_); rintro e w5 ⟨a6, c6, rfl, he5, hi5⟩
            have hEw := (he.trans hr).trans he5
            cases st with
            | none =>
              have hz : rpP ha l p now = [] ∧ rpK ha l p now = 0 ∧ rpE ha l p now = 101 := ⟨HR.out.2.1, HR.out.2.2, HR.out.1⟩
              have HZ := Lib.hid hz
              clear hz
              unfold solV
              dsimp only
              go_wp2_with (fail)
              go_ret3
              unfold RetRp
              rw [HZ.out.1, HZ.out.2.1, HZ.out.2.2]
              exact ⟨none, 0, rfl, hEw, .inl rfl⟩
            | some pk =>
              obtain ⟨q, kc⟩ := pk
              have hz : rpP ha l p now = q ∧ rpK ha l p now = kc ∧ rpE ha l p now = 0 := ⟨HR.out.2.1, HR.out.2.2, HR.out.1⟩
              have HZ := Lib.hid hz
              have HI := Lib.hid hi5
              clear hz hi5
              unfold solV
              dsimp only
              go_wp2_with (fail)
              go_ret3
              unfold RetRp
              rw [HZ.out.1, HZ.out.2.1, HZ.out.2.2]
              exact ⟨a6, c6, rfl, hEw, HI.out⟩
end Go.Proofs.Ytjpgignbjkgjiaa
