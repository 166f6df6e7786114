import Derived.Test.YtjpgignbjkgjiaaR6
import Derived.Test.YtjpgignbjkgjiaaP10
import Derived.Test.YtjpgignbjkgjiaaA10
import Derived.Deep.RegionHeld3
import Derived.Deep.DrawnRows
set_option linter.unusedVariables false
set_option linter.unusedSimpArgs false
namespace Go.Proofs.Ytjpgignbjkgjiaa
open Go.RowKit
attribute [local go_sem ↓] Go.wp_at_zero Go.wp_at_succ
theorem camps_none {w : World} {xs : List Camp} (h : Camps w none xs) : xs = [] := by
  rcases h with h | ⟨b, o, h1, _⟩
  · exact h
  · cases h1
set_option maxHeartbeats 400000 in
theorem clone_camp (a : Option Addr) (c : Nat) (xs : List Camp) (w : World) (hx : Camps w a xs) (hn : xs.length ≤ 1000000) :
    Calls Try.prog 52 #[.slice a xs.length c] w (RetC xs w) := by
  have hnil := fun (W : World) (a : Option Addr) (n c : Nat) => Lib.run_eql_slice_nil (P := Try.prog) W 25 45 a n c 0 0 Try.underlying25
  cases a with
  | none =>
    obtain rfl := camps_none hx
    have HN := Lib.hid hn; clear hn
    go_enter Try.func52, Try.ntmps52
    go_wp2_with (fail)
    go_ret
    exact ⟨none, 0, rfl, Ext.refl w, by exact World.ownsRow_nil _ _ _ _⟩
  | some ad =>
    have happ := app_camps (w.alloc (.cells #[] 45)) w.heap.size 25 _ [] xs (some ad) c (own_empty w 45 7) (hx.ext ((Ext.refl w).alloc _)) (by simp; omega) (by simp)
    have HA := Lib.hid happ
    clear hx hn happ
    go_enter Try.func52, Try.ntmps52
    go_wp2_with (at_builtin; refine wpList_app _ rfl _ _ 25 rfl _ HA.out ?_; rintro v' w' ⟨hv, hg⟩)
    obtain ⟨a', n', c', rfl⟩ := ownC_slice hv
    obtain ⟨-, hn', -⟩ := hv.camps
    go_ret
    refine ⟨a', c', by rw [hn']; rfl, grown_ext ((Ext.refl w).alloc _) hg (by simp [Value.ownBlock]), ?_⟩
    rw [hn'] at hv
    exact hv
theorem heap_newd (w : World) (o : Obj) : (w.alloc o).drew.heap[w.heap.size]? = some o := heap_new w o
theorem own_downC {w : World} {B B' : Nat} {v : Value} {xs : List Camp} (h : OwnC w B v xs) (hb : B' ≤ B) : OwnC w B' v xs := by
  obtain ⟨h1, h2⟩ := h
  refine ⟨h1, ?_⟩
  rcases h2 with h2 | ⟨g, cap, cur, hv, hg, r⟩
  · exact .inl h2
  · exact .inr ⟨g, cap, cur, hv, by omega, r⟩
theorem ownC_block {w : World} {B : Nat} {v : Value} {xs : List Camp} (h : OwnC w B v xs) : ∀ k, v.ownBlock = some k → B ≤ k := fun k hk => (h.lt k hk).1
def RetFit (ha : Hal) (l : List Camp) (p : List Int) (c : Camp) (w : World) : Ending → World → Prop := Ret (.tuple #[.int .i64 (fitT ha l p c), .int .i64 (fitE ha l p c)]) w
set_option maxRecDepth 100000 in
set_option maxHeartbeats 4000000 in
theorem Fit_any (ha : Hal) (x : HP) (l : List Camp) (la : Option Addr) (lc : Nat) (p : List Int) (pa : Option Addr) (pn pc : Nat) (c : Camp) (w : World) (hh : HallAt w ha x) (hl : Camps w la l) (hp : Ints w pa p) (hpn : p.length = pn) :
    Calls Try.prog 22 #[hval ha x, .slice la l.length lc, .slice pa pn pc, cval c] w (RetFit ha l p c w) := by
  have hcheck := fun W (h : Ext w W) => Check_any ha x l la lc p pa pn pc W (hh.ext h) (hl.ext h) (hp.ext h) hpn
  have hclc := fun W (h : Ext w W) q => clone_camp la lc l W (hl.ext h) q
  have hcli := fun W (h : Ext w W) q => clone_int pa pc p W (hp.ext h) q
  rw [hpn] at hcli
  obtain ⟨m, hm⟩ : ∃ m, m = l ++ [c] := ⟨_, rfl⟩
  have hcc := fun W (h : Ext w W) ca cc (q : Camps W ca m) => checkCampaigns ha x m ca cc W (hh.ext h) q
  have hst := fun W (h : Ext w W) q1 q2 => starts_any ha x c 0 m W (hh.ext h) q1 q2 (by omega) (by omega)
  have hbr := fun W (h : Ext w W) ca cc q ia ic (q1 : Camps W ca m) (q2 : Ints W ia q) q3 q4 => breach_any ha x m ca cc q ia q.length ic W (hh.ext h) q1 q2 q3 rfl q4
  have HM := Lib.hid hm
  have hml : m.length ≤ l.length + 1 := by rw [hm]; simp
  have HC := Lib.hid hcheck; have HCL := Lib.hid hclc; have HCI := Lib.hid hcli; have HCC := Lib.hid hcc; have HST := Lib.hid hst; have HBR := Lib.hid hbr
  have HPN := Lib.hid hpn
  clear hcheck hclc hcli hcc hst hbr hpn hm
  obtain ⟨sa, sc, ea, ec⟩ := x
  clear hh hl hp
  cases T1 : (errS ha l p != 0)
  rotate_left
  · have HB : Hid (fitT ha l p c = 0 ∧ fitE ha l p c = errS ha l p) := by
      have : ¬ errS ha l p = 0 := by simpa using T1
      exact ⟨by rw [fitT, if_neg this], by rw [fitE, if_neg this]⟩
    go_enter Try.func22, Try.ntmps22
    go_wp2_with (fail)
    generalize hw1 : World.alloc _ _ = w1
    obtain ⟨he, o1, o2, -⟩ := alloc2 hw1
    obtain ⟨b0, b1, b2, b3⟩ := obj_cells4 o1
    clear hw1 o1 o2
    (with_reducible refine (HC.out _ he).mono ?_); rintro e w2 ⟨rfl, he2⟩
    go_wp2_with (fail)
    go_ret2
    exact ⟨by rw [HB.out.1, HB.out.2]; rfl, (he.trans he2).alloc _⟩
  · have h0 : errS ha l p = 0 := by simpa using T1
    obtain ⟨hv, hpl, -⟩ := errS_zero h0
    have hl16 := hv.ll
    have HPL := Lib.hid hpl
    have HT0 : Hid ((fitT ha l p c = if campsB ha m then idxZ (fitO ha l p c) else 0) ∧ (fitE ha l p c = if campsB ha m then (if (fitO ha l p c).isSome then 0 else 102) else 2)) := ⟨by rw [fitT, if_pos h0, HM.out], by rw [fitE, if_pos h0, HM.out]⟩
    have hpn16 : pn ≤ 16 := by rw [← HPN.out]; omega
    clear hpl hv h0
    go_enter Try.func22, Try.ntmps22
    go_wp2_with (fail)
    generalize hw1 : World.alloc _ _ = w1
    obtain ⟨he, o1, o2, -⟩ := alloc2 hw1
    obtain ⟨b0, b1, b2, b3⟩ := obj_cells4 o1
    obtain ⟨a0, a1, a2, a3, a4, a5, a6⟩ := obj_cells7 o2
    clear hw1 o1 o2
    (with_reducible refine (HC.out _ he).mono ?_); rintro e w2 ⟨rfl, he2⟩
    go_wp2_with (fail)
    generalize hw3 : World.alloc _ _ = w3
    obtain ⟨he3, -, -⟩ := alloc1 hw3
    clear hw3
    have hx3 := he2.trans he3
    clear he2 he3
    go_cut [12] (fun s wx => ∃ ca cc, s = .slice ca m.length cc ∧ Ext w1 wx ∧ Camps wx ca m)
    case first =>
      go_region_held3 (fun W => Ext w1 W) (first | with_reducible assumption | exact Ext.drew (by with_reducible assumption) | exact Ext.alloc (by with_reducible assumption) _ | exact (Ext.alloc (by with_reducible assumption) _).drew)
        (first
        | (go_at_call 52; (with_reducible refine (HCL.out _ (he.trans (by with_reducible assumption)) (by omega)).mono ?_); rintro e w4 ⟨ca, cc, rfl, he4, ho4⟩; have hx4 := Ext.trans (show Ext w1 _ by with_reducible assumption) he4; have HO4 := Lib.hid (own_downC ho4 (show Ext w1 _ by with_reducible assumption).size); clear ho4)
        | ((refine step_app (by rfl) (.tmp 26) (.tmp 28) 25 (by rfl) _ _ (by rfl) (by rfl) _ (app_camps _ w1.heap.size _ _ l [c] (some ⟨_, 0, none⟩) 1 (by first | exact HO4.out | exact HO4.out.ext ((Ext.refl _).alloc _)) (by first | exact camps_one (heap_new _ _) | exact (camps_one (heap_newd _ _)).ext he4 | exact (camps_one (heap_new _ _)).ext he4) (by simp; omega) (by have := hx4.size; first | omega | (rw [heap_size]; omega))) ?_; rintro v5 w5 ⟨hv5, hg5⟩; have hx5 : Ext w1 w5 := grown_ext (by first | exact hx4 | exact hx4.alloc _) hg5 (ownC_block HO4.out)))
        | fail)
      all_goals
        go_wp2_with fail
        go_meet
        obtain ⟨a', n', c', rfl⟩ := ownC_slice hv5
        rw [← HM.out] at hv5
        obtain ⟨hcs, hn', -⟩ := hv5.camps
        subst hn'
        exact ⟨a', c', rfl, hx5, hcs⟩
    case rest =>
      obtain ⟨ca, cc, rfl, hxc, hcam⟩ := hcut
      have HCAM := Lib.hid hcam
      clear hcam hx3
      go_wp2_with (fail)
      cases T2 : campsB ha m
      · have hcc := HCC.out _ (he.trans hxc) ca cc HCAM.out
        rw [T2] at hcc
        have HB : Hid (fitT ha l p c = 0 ∧ fitE ha l p c = 2) := by
          rw [T2] at HT0; exact HT0.out
        have HCC1 := Lib.hid hcc
        clear hcc
        (with_reducible refine HCC1.out.mono ?_); rintro e w6 ⟨rfl, he6⟩
        simp only [errIf]
        go_wp2_with (fail)
        go_ret2
        exact ⟨by rw [HB.out.1, HB.out.2]; rfl, (he.trans hxc).trans he6⟩
      · have hcc := HCC.out _ (he.trans hxc) ca cc HCAM.out
        rw [T2] at hcc
        rw [T2] at HT0
        have HCC1 := Lib.hid hcc
        have hv := campsB_vh T2
        have hcb : CB ha.st.length c := by have := hv.cb l.length (by rw [HM.out]; simp); rwa [HM.out, cth_snoc] at this
        have HV := Lib.hid hv; have HCB := Lib.hid hcb
        have hn96 := hv.n2
        clear hcc hv hcb
        (with_reducible refine HCC1.out.mono ?_); rintro e w6 ⟨rfl, he6⟩
        simp only [errIf]
        have hx6 := hxc.trans he6
        go_wp2_with (fail)
        (with_reducible refine (HST.out _ (he.trans hx6) HV.out HCB.out).mono ?_); rintro e w7 ⟨ta, tc, rfl, he7, ho7⟩
        have hx7 := hx6.trans he7
        obtain ⟨hti, -, -⟩ := ho7.ints
        have hsl := (startsS_bd HV.out HCB.out 0).1
        have hsb : ∀ k, k < (startsS ha c 0).length → 0 ≤ nth (startsS ha c 0) k ∧ nth (startsS ha c 0) k ≤ 96 := fun k hk => (startsS_bd HV.out HCB.out 0).2 _ (nth_mem hk)
        have HTI := Lib.hid hti; have HSB := Lib.hid hsb
        have HSO : Hid ((∀ k, k < (startsS ha c 0).length → fitQ ha l p c (nth (startsS ha c 0) k) = true → (∀ j, j < k → fitQ ha l p c (nth (startsS ha c 0) j) = false) → fitE ha l p c = 0 ∧ fitT ha l p c = nth (startsS ha c 0) k) ∧ ((∀ j, j < (startsS ha c 0).length → fitQ ha l p c (nth (startsS ha c 0) j) = false) → fitE ha l p c = 102 ∧ fitT ha l p c = 0)) := by
          refine ⟨fun k hk hq hf => ?_, fun hf => ?_⟩
          · obtain ⟨i, e1, e2⟩ := fit_some HPL.out HCB.out hk hq hf
            rw [HT0.out.1, HT0.out.2, e1, e2]; exact ⟨rfl, rfl⟩
          · have e1 := fit_none HPL.out HCB.out hf
            rw [HT0.out.1, HT0.out.2, e1]; exact ⟨rfl, rfl⟩
        clear hti ho7 hsb T2 T1
        generalize startsS ha c 0 = ss at *
        go_wp2_with (fail)
        go_loopw [38] (fun i wr => ∃ k : Nat, k ≤ ss.length ∧ i = .int .i64 k ∧ Ext w7 wr ∧ Hid (∀ j, j < k → fitQ ha l p c (nth ss j) = false)) (fun i _ => ss.length - (intOf i).toNat)
        case atStart => exact ⟨0, Nat.zero_le _, rfl, Ext.refl _, fun j hj => by omega⟩
        case round =>
          obtain ⟨k, hk, rfl, hr, hf⟩ := hrel
          by_cases hlt : k < ss.length
          · obtain ⟨b, o, rfl, t0⟩ := HTI.out.at k hlt
            obtain ⟨q, hq⟩ : ∃ q, q = p ++ [nth ss k] := ⟨_, rfl⟩
            have HQ := Lib.hid hq
            have hfq : fitQ ha l p c (nth ss k) = ((breachS ha m q).ru == 0) := by rw [HM.out, hq]; rfl
            have hql : m.length ≤ q.length := by rw [HM.out, hq]; simp; have := HPL.out; omega
            have HFQ := Lib.hid hfq
            clear hq hfq
            go_wp2_with (fail)
            have hxr := hx7.trans hr
            have hwr := Lib.hid (he.trans hxr)
            have hcr := Lib.hid ((he6.trans he7).trans hr)
            have d0 := fun W (h : Ext wr W) => b0 W (hxr.trans h)
            have d1 := fun W (h : Ext wr W) => b1 W (hxr.trans h)
            have d2 := fun W (h : Ext wr W) => b2 W (hxr.trans h)
            have d3 := fun W (h : Ext wr W) => b3 W (hxr.trans h)
            have hr0 := Ext.refl wr
            go_region_held3 (fun W => Ext wr W) (first | with_reducible assumption | exact Ext.drew (by with_reducible assumption) | exact Ext.alloc (by with_reducible assumption) _ | exact (Ext.alloc (by with_reducible assumption) _).drew)
              (first
              | (go_at_call 55; (with_reducible refine (HCI.out _ (hwr.out.trans (by with_reducible assumption)) (by omega)).mono ?_); rintro e w8 ⟨ia, ic, rfl, he8, ho8⟩; have hx8 := Ext.trans (show Ext wr _ by with_reducible assumption) he8; have HO8 := Lib.hid (own_down ho8 (show Ext wr _ by with_reducible assumption).size); clear ho8)
              | ((refine step_app (by rfl) (.tmp 45) (.tmp 47) 22 (by rfl) _ _ (by rfl) (by rfl) _ (app_ints _ wr.heap.size _ _ p [nth ss k] (some ⟨_, 0, none⟩) 1 (by first | exact HO8.out | exact HO8.out.ext ((Ext.refl _).alloc _)) (by first | exact ints_one (heap_new _ _) | exact (ints_one (heap_newd _ _)).ext he8 | exact (ints_one (heap_new _ _)).ext he8) (by rw [HPN.out]; simp; omega) (by have := hx8.size; first | omega | (rw [heap_size]; omega))) ?_; rintro v9 w9 ⟨hv9, hg9⟩; have hx9 : Ext wr w9 := grown_ext (by first | exact hx8 | exact hx8.alloc _) hg9 (own_block HO8.out); rw [← HQ.out] at hv9; obtain ⟨ja, jn, jc, rfl⟩ := own_slice hv9; have hin := hv9.ints; obtain ⟨hji, hjn, -⟩ := hin; subst hjn))
              | (go_at_call 54; (with_reducible refine (HBR.out _ (hwr.out.trans hx9) ca cc q ja jc (HCAM.out.ext (hcr.out.trans hx9)) hji hql HV.out).mono ?_); rintro e w10 ⟨rfl, he10⟩; have hx10 := Ext.trans (show Ext wr _ by with_reducible assumption) he10)
              | fail)
            all_goals
              have hx11 := hr.trans hx10
              clear d0 d1 d2 d3 hr0 hji hv9
              cases T3 : fitQ ha l p c (nth ss k)
              · have hf2 := Lib.hid (all_lt_succ (q := fun j => fitQ ha l p c (nth ss j)) hf.out T3)
                have T4 : ((breachS ha m q).ru == 0) = false := by rw [← HFQ.out]; exact T3
                clear T3
                go_wp2_with (fail)
                go_roundw
                case rel => exact ⟨k + 1, by omega, by go_num, hx11, hf2⟩
                case measure => simp [intOf]; omega
              · have hso := HSO.out.1 k hlt T3 hf.out
                have T4 : ((breachS ha m q).ru == 0) = true := by rw [← HFQ.out]; exact T3
                have HS2 := Lib.hid hso
                clear T3 hso
                go_wp2_with (fail)
                go_ret2
                exact ⟨by rw [HS2.out.1, HS2.out.2]; rfl, (he.trans hx7).trans hx11⟩
          · obtain rfl : k = ss.length := by omega
            have hso := HSO.out.2 hf.out
            have HS2 := Lib.hid hso
            clear hso
            go_wp2_with (fail)
            go_ret2
            exact ⟨by rw [HS2.out.1, HS2.out.2]; rfl, (he.trans hx7).trans hr⟩
end Go.Proofs.Ytjpgignbjkgjiaa
