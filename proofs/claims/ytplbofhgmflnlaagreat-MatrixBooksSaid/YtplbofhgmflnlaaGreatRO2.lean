/-
  Walk: the reference's Order.
-/
import Derived.Test.YtplbofhgmflnlaaGreatRO1
set_option linter.unusedVariables false
set_option linter.unusedSimpArgs false
namespace Go.Proofs.YtplbofhgmflnlaaGreat
open Go.RowKit
set_option maxRecDepth 100000 in
set_option maxHeartbeats 8000000 in
theorem rOrder_any (P : Pw) (a : Option Addr) (ss : List Se) (sc : Nat) (sd : Int) (w : World) (hp : PlanAt w P) (hf : P.fs.length ≤ 8) (hs : SetsAt w a ss) (hn : ss.length ≤ 2000) (hl : ∀ j, j < ss.length → (eth ss j).lv.xs.length = P.fs.length) :
    Calls Tryz.prog 49 #[planV P, .slice a ss.length sc, .int .u64 sd] w (RetI (refO 1001 (fun i => gL P.fs (eth ss i)) ss.length sd) w) := by
  have hfi := fun W (e : Ext w W) i (hi : i < ss.length) => rFirst_any P a ss sc i W (hp.ext e) hf (hs.ext e) hi (by omega) hl
  have hsm := fun W (e : Ext w W) p q (hp' : p < ss.length) (hq : q < ss.length) => rSame_any P (eth ss p) (eth ss q) W (hp.ext e) hf ((hs.ext e).lv p hp') ((hs.ext e).lv q hq) (hl p hp') (hl q hq)
  have hisf := fun k i (h1 : k ≤ i) h2 h3 => isFst_iff (fs := P.fs) (ss := ss) hf k i h1 h2 h3
  have hsk := fun p q => sameG_key (fs := P.fs) (s := eth ss p) (u := eth ss q) hf
  have hkb : ∀ i, KB (fun i => gL P.fs (eth ss i)) i = (eth ss i).blk := fun i => rfl
  obtain ⟨K, hK⟩ : ∃ K : Nat → List Int, K = fun i => gL P.fs (eth ss i) := ⟨_, rfl⟩
  obtain ⟨SG, hSG⟩ : ∃ SG : Nat → Nat → Bool, SG = fun p q => sameG P.fs (eth ss p) (eth ss q) := ⟨_, rfl⟩
  have hfi2 : ∀ W, Ext w W → ∀ i, i < ss.length → Calls Tryz.prog 94 #[planV P, .slice a ss.length sc, .int .i64 (i : Int)] W (fun e w' => ∃ k : Nat, e = .returned (.int .i64 (k : Int)) ∧ Ext W w' ∧ k ≤ i ∧ isFst K i = decide (k = i)) := fun W e i hi => (hfi W e i hi).mono (by
    rintro e w' ⟨k, rfl, he, h1, h2, h3⟩
    exact ⟨k, rfl, he, h1, by rw [hK]; exact hisf k i h1 h2 h3⟩)
  have hsm2 : ∀ W, Ext w W → ∀ p q, p < ss.length → q < ss.length → Calls Tryz.prog 95 #[planV P, setV (eth ss p), setV (eth ss q)] W (Ret (.bool (SG p q)) W) := fun W e p q h1 h2 => by rw [hSG]; exact hsm W e p q h1 h2
  have hsk2 : ∀ p q, SG p q = true ↔ K p = K q := fun p q => by rw [hSG, hK]; exact hsk p q
  rw [← hK] at hkb ⊢
  clear hfi hsm hisf hsk hSG hK hl
  obtain ⟨fs, fa, fc, fo, ga, gc⟩ := P
  try simp only at hfi2
  try simp only at hsm2
  obtain ⟨n, hnn⟩ : ∃ n, n = ss.length := ⟨_, rfl⟩
  rw [← hnn] at hn hfi2 hsm2 ⊢
  have HFI := Lib.hid hfi2; have HSM := Lib.hid hsm2; have HSK := Lib.hid hsk2; have HKB := Lib.hid hkb
  have HS := Lib.hid hs; have HNN := Lib.hid hnn
  clear hfi2 hsm2 hsk2 hkb hs hnn hp
  go_enter Tryz.func49, Tryz.ntmps49
  go_upto_region 1 with fail
  generalize hw1 : World.alloc _ _ = w1
  obtain ⟨he, o1, -⟩ := alloc1 hw1
  obtain ⟨b0, b1⟩ := obj_cells2 o1
  have E1 := Ext.refl w1
  have HE := Lib.hid he
  clear hw1 o1 he
  go_wp2_with (fail)
  have HR0 : Hid (RowsAt (w1.alloc (.cells #[] 3)) w1.heap.size [rwI (.slice (some ⟨w1.heap.size, 0, none⟩) 0 0) []]) := (RowsAt.nil w1 w1.heap.size).new (Nat.le_refl _)
  have HX0 : Hid (Ext w1 (w1.alloc (.cells #[] 3))) := (Ext.refl w1).alloc _
  go_loopw [7, 8] (fun o i wr => ∃ (b : Nat), b ≤ 1001 ∧ i = .int .i64 b ∧ Hid (Ext w1 wr) ∧ Hid (RowsAt wr w1.heap.size [rwI o (refO b K n sd)])) (fun _ i _ => 1001 - (intOf i).toNat)
  case atStart => exact ⟨0, by omega, rfl, HX0.out, HR0.out⟩
  case round =>
    obtain ⟨b, hb, rfl, HX, HR⟩ := hrel
    by_cases hlt : b < 1001
    · have hx := HX.out
      obtain ⟨wo, rfl⟩ : ∃ wo : World, wo = wr := ⟨_, rfl⟩
      have B0 := fun W (e : Ext wo W) => b0 W (hx.trans e)
      have B1 := fun W (e : Ext wo W) => b1 W (hx.trans e)
      have HR1 := Lib.hid (HR.out.new hx.size)
      have HX1 : Hid (Ext w1 (wo.alloc (.cells #[] 3))) := hx.alloc _
      obtain ⟨O, hO⟩ : ∃ O, O = refO b K n sd := ⟨_, rfl⟩
      have HO : Hid (O.length ≤ b * (n * n) ∧ refO (b + 1) K n sd = O ++ refB K n sd (b : Int)) := by
        rw [hO]; exact ⟨refO_len (by omega) b, refO_succ K n sd b⟩
      rw [← hO] at HR1
      clear hO HR hx
      go_wp2_with (fail)
      rw [show decide ((b : Int) ≤ 1000) = true from decide_eq_true (by omega)]
      go_loopw [9, 10] (fun gv i wr => ∃ (i' : Nat), i' ≤ n ∧ i = .int .i64 i' ∧ Hid (Ext w1 wr) ∧ Hid (RowsAt wr w1.heap.size [rwI gv (natI (fstB K i' (b : Int))), rwI u7 O])) (fun _ i _ => n - (intOf i).toNat)
      case atStart => exact ⟨0, Nat.zero_le _, rfl, HX1.out, HR1.out⟩
      case round =>
        obtain ⟨i, hi, rfl, HX, HR⟩ := hrel
        have hx := HX.out
        have B0 := fun W (e : Ext wr W) => b0 W (hx.trans e)
        have B1 := fun W (e : Ext wr W) => b1 W (hx.trans e)
        have Er := Ext.refl wr
        by_cases hlt2 : i < n
        · obtain ⟨sb, so, rfl, d0, d1⟩ := set_at (HS.out.ext (HE.out.trans hx)).row i (by rw [← HNN.out]; exact hlt2)
          have HST := Lib.hid (fstB_succ K i (b : Int))
          have hkb := HKB.out i
          obtain ⟨blk, hblk⟩ : ∃ x, x = (eth ss i).blk := ⟨_, rfl⟩
          rw [← hblk] at d1 hkb
          rw [hkb] at HST
          clear hblk hkb d0
          by_cases hbb : blk = (b : Int)
          · subst hbb
            go_wp2_with (fail)
            (with_reducible refine (HFI.out _ (HE.out.trans hx) i hlt2).mono ?_); rintro e w2 ⟨k, rfl, he2, hk1, hk2⟩
            rw [hk2] at HST
            have hx2 : Ext w1 w2 := hx.trans he2
            by_cases hki : k = i
            · subst hki
              have HAP := Lib.hid ((HR.out.ext he2).app1 (i := 0) rfl hx2.size (by rw [natI_len]; have := fstB_len K k (b : Int); omega) (k : Int))
              clear HR hk2
              go_wp2_with (at_builtin; refine wpList_app _ rfl _ _ 31 rfl _ HAP.out ?_; rintro v' w6 ⟨hv6, ⟨a6, c6, rfl⟩, he6⟩)
              have HR6 : Hid (RowsAt w6 w1.heap.size [rwI (.slice a6 ((natI (fstB K k (b : Int))).length + 1) c6) (natI (fstB K (k + 1) (b : Int))), rwI u7 O]) := by
                rw [Hid, HST.out]
                simpa [natI] using hv6
              have HX6 : Hid (Ext w1 w6) := he6 w1 hx2 (Nat.le_refl _)
              clear hv6 he6 HAP HST d1 he2 hx2
              go_wp2_with (fail)
              go_roundw
              case rel => exact ⟨k + 1, by omega, by go_num, HX6.out, HR6.out⟩
              case measure => simp [intOf]; omega
            · have hne : ((k : Int) == (i : Int)) = false := by rw [beq_eq_false_iff_ne]; omega
              have HR6 : Hid (RowsAt w2 w1.heap.size [rwI u9 (natI (fstB K (i + 1) (b : Int))), rwI u7 O]) := by
                rw [Hid, HST.out]
                simpa [hki] using HR.out.ext he2
              have HX6 : Hid (Ext w1 w2) := hx2
              clear HST d1 he2 hx2 HR
              go_wp2_with (fail)
              go_roundw
              case rel => exact ⟨i + 1, by omega, by go_num, HX6.out, HR6.out⟩
              case measure => simp [intOf]; omega
          · have hne : (blk == (b : Int)) = false := by rw [beq_eq_false_iff_ne]; exact hbb
            have HR6 : Hid (RowsAt wr w1.heap.size [rwI u9 (natI (fstB K (i + 1) (b : Int))), rwI u7 O]) := by
              rw [Hid, HST.out]
              simpa [hbb] using HR.out
            clear HST HR
            go_wp2_with (fail)
            go_roundw
            case rel => exact ⟨i + 1, by omega, by go_num, HX.out, HR6.out⟩
            case measure => simp [intOf]; omega
        · obtain rfl : i = n := by omega
          obtain ⟨G, hG⟩ : ∃ G, G = fstB K i (b : Int) := ⟨_, rfl⟩
          rw [← hG] at HR
          have HG := Lib.hid hG
          have hgl : G.length ≤ i := by rw [hG]; exact fstB_len K i (b : Int)
          have hgv : OwnI wr w1.heap.size u9 (natI G) := HR.out.get (i := 0) rfl
          obtain ⟨ga', gn, gc', rfl⟩ := own_slice hgv
          obtain ⟨-, hgn, -⟩ := hgv.ints
          rw [natI_len] at hgn
          subst hgn
          clear hG hgv
          go_wp2_with (fail)
          (with_reducible refine (refShuffle_any _ G.length _ (by omega)).mono ?_); rintro e w2 ⟨wa, wc, rfl, he2, ho2⟩
          have hwl := shufI_len (IntKind.u64.wrap (sd + (b : Int) * 1000003)) G.length (by omega)
          have HWA := Lib.hid (shufI_at (IntKind.u64.wrap (sd + (b : Int) * 1000003)) G.length (by omega))
          obtain ⟨R, hR⟩ : ∃ R : Int → List Int, R = fun q => refG K i sd (G.getD q.toNat 0) := ⟨_, rfl⟩
          have HFB : Hid (refB K i sd (b : Int) = (shufL (IntKind.u64.wrap (sd + (b : Int) * 1000003)) (rngI G.length)).flatMap R) := by
            rw [Hid, seedB_nat sd b hlt, hR, HG.out]; exact refB_eq' K i sd (b : Int)
          have HRQ : Hid (∀ q : Nat, R (q : Int) = refG K i sd (G.getD q 0)) := fun q => by rw [hR]; rfl
          have HRL : Hid (∀ q, (R q).length ≤ i) := fun q => by rw [hR]; exact refG_len _ (by omega)
          generalize shufL (IntKind.u64.wrap (sd + (b : Int) * 1000003)) (rngI G.length) = WY at hwl HWA HFB ho2 ⊢
          rw [hwl] at ho2 ⊢
          have HWL := Lib.hid hwl
          have HR2 := Lib.hid (HR.out.add hx.size he2 ho2)
          have HX2 := Lib.hid (hx.trans he2)
          clear hwl ho2 he2 hR HR Er B0 B1
          go_wp2_with (fail)
          go_loopw [7, 12] (fun o g wr => ∃ (g' : Nat), g' ≤ G.length ∧ g = .int .i64 g' ∧ Hid (Ext w1 wr) ∧ Hid (RowsAt wr w1.heap.size [rwI (.slice wa G.length wc) WY, rwI (.slice ga' G.length gc') (natI G), rwI o (O ++ (WY.take g').flatMap R)])) (fun _ g _ => G.length - (intOf g).toNat)
          case atStart => exact ⟨0, Nat.zero_le _, rfl, HX2.out, Lib.hid (by simpa using HR2.out)⟩
          case round =>
            obtain ⟨g, hg, rfl, HX, HR⟩ := hrel
            have hx := HX.out
            have Er := Ext.refl wr
            by_cases hlg : g < G.length
            · obtain ⟨q, hq, hwq⟩ := HWA.out g hlg
              obtain ⟨f, hfq⟩ : ∃ f, f = G.getD q 0 := ⟨_, rfl⟩
              have hfn : f < i := by rw [hfq, HG.out]; exact fstB_mem (by rw [← HG.out]; exact hq)
              have how : OwnI wr w1.heap.size (.slice wa G.length wc) WY := HR.out.get (i := 0) rfl
              have hog : OwnI wr w1.heap.size (.slice ga' G.length gc') (natI G) := HR.out.get (i := 1) rfl
              obtain ⟨wb, wo2, rfl, dw⟩ := how.ints.1.at g (by rw [HWL.out]; exact hlg)
              obtain ⟨gb, go2, rfl, dg⟩ := hog.ints.1.at q (by rw [natI_len]; exact hq)
              rw [hwq] at dw
              rw [natI_nth G q hq, ← hfq] at dg
              have HFQ : Hid (R (nth WY g) = refG K i sd f) := by rw [Hid, hwq, HRQ.out, hfq]
              have hql : (q : Int) < (G.length : Int) := by omega
              have hq0 : (0 : Int) ≤ (q : Int) := by omega
              have HRM := Lib.hid (HR.out.new hx.size)
              have HXM : Hid (Ext w1 (wr.alloc (.cells #[] 3))) := hx.alloc _
              obtain ⟨O1, hO1⟩ : ∃ O1, O1 = O ++ (WY.take g).flatMap R := ⟨_, rfl⟩
              have HO1 : Hid (O1.length ≤ b * (i * i) + i * i ∧ O ++ (WY.take (g + 1)).flatMap R = O1 ++ refG K i sd f) := by
                rw [hO1]
                refine ⟨?_, ?_⟩
                · rw [List.length_append]
                  have h1 := flat_len R i (WY.take g) fun q _ => HRL.out q
                  have h2 : (WY.take g).length ≤ i := by rw [List.length_take]; omega
                  have h3 := Nat.mul_le_mul h2 (Nat.le_refl i)
                  have h4 := HO.out.1
                  omega
                · have hgw : g < WY.length := by rw [HWL.out]; exact hlg
                  rw [take_flat R WY g hgw, ← nth_eq WY g hgw, HFQ.out, List.append_assoc]
              rw [← hO1] at HRM
              clear how hog hwq hfq hO1 HR
              go_wp2_with (fail)
              go_loopw [14, 15] (fun mv i2 wr => ∃ (j : Nat), j ≤ i ∧ i2 = .int .i64 j ∧ Hid (Ext w1 wr) ∧ Hid (RowsAt wr w1.heap.size [rwI mv (memI K j (K f)), rwI (.slice (some ⟨wb, wo2, none⟩) G.length wc) WY, rwI (.slice (some ⟨gb, go2, none⟩) G.length gc') (natI G), rwI u7 O1])) (fun _ i2 _ => i - (intOf i2).toNat)
              case atStart => exact ⟨0, Nat.zero_le _, rfl, HXM.out, HRM.out⟩
              case round =>
                obtain ⟨j, hj, rfl, HX, HR⟩ := hrel
                have hx := HX.out
                have B0 := fun W (e : Ext wr W) => b0 W (hx.trans e)
                have B1 := fun W (e : Ext wr W) => b1 W (hx.trans e)
                have hr0 := Ext.refl wr
                by_cases hlj : j < i
                · obtain ⟨sb, so, rfl, d0, d1⟩ := set_at (HS.out.ext (HE.out.trans hx)).row f (by rw [← HNN.out]; exact hfn)
                  obtain ⟨sb', so', hbo, e0, e1⟩ := set_at (HS.out.ext (HE.out.trans hx)).row j (by rw [← HNN.out]; exact hlj)
                  simp only [Option.some.injEq, Addr.mk.injEq, and_true] at hbo
                  obtain ⟨rfl, rfl⟩ := hbo
                  have HCL := Lib.hid (fun n' : Later wr => HSM.out n'.val ((HE.out.trans hx).trans n'.ok) f j hfn hlj)
                  have HMS := Lib.hid (memI_step K j (K f))
                  have HKK := Lib.hid (HSK.out f j)
                  cases T : SG f j
                  · rw [T] at HCL HKK
                    have hkk : ¬ K j = K f := fun e => by have := HKK.out.2 e.symm; cases this
                    have HMN : Hid (memI K (j + 1) (K f) = memI K j (K f)) := by rw [Hid, HMS.out, if_neg hkk]
                    clear HMS HKK hkk T
                    go_upto_region 20 with fail
                    refine wp_region_ext (by kernel_rfl) (by kernel_rfl) hr0 ?_
                    repeat (first | go_big_quiet_step (((go_at_call 95; exact Calls.later (HCL.out _)))) | quiet_step (((go_at_call 95; exact Calls.later (HCL.out _)))))
                    refine wpQuiet_nil ?_
                    rintro _ ⟨nq, rfl⟩
                    have HR6 := Lib.hid (HR.out.ext nq.ok)
                    rw [← HMN.out] at HR6
                    have HX6 := Lib.hid (hx.trans nq.ok)
                    clear HR HMN
                    go_wp2_with (fail)
                    go_roundw
                    case rel => exact ⟨j + 1, by omega, by go_num, HX6.out, HR6.out⟩
                    case measure => simp [intOf]; omega
                  · rw [T] at HCL HKK
                    have hkk : K j = K f := (HKK.out.1 rfl).symm
                    have HMN : Hid (memI K (j + 1) (K f) = memI K j (K f) ++ [(j : Int)]) := by rw [Hid, HMS.out, if_pos hkk]
                    have hml := memI_len K j (K f)
                    clear HMS HKK hkk T
                    go_upto_region 20 with fail
                    refine wp_region_ext (by kernel_rfl) (by kernel_rfl) hr0 ?_
                    repeat (first | go_big_quiet_step (((go_at_call 95; exact Calls.later (HCL.out _)))) | quiet_step (((go_at_call 95; exact Calls.later (HCL.out _)))))
                    refine wpQuiet_nil ?_
                    rintro _ ⟨nq, rfl⟩
                    have hx6 := hx.trans nq.ok
                    have HAP := Lib.hid ((HR.out.ext nq.ok).app1 (i := 0) rfl hx6.size (by omega) (j : Int))
                    clear HR
                    go_wp2_with (at_builtin; refine wpList_app _ rfl _ _ 31 rfl _ HAP.out ?_; rintro v' w6 ⟨hv6, ⟨a6, c6, rfl⟩, he6⟩)
                    have HR6 := Lib.hid hv6
                    rw [← HMN.out] at HR6
                    have HX6 : Hid (Ext w1 w6) := he6 w1 hx6 (Nat.le_refl _)
                    clear hv6 he6 HAP HMN hx6
                    go_wp2_with (fail)
                    go_roundw
                    case rel => exact ⟨j + 1, by omega, by go_num, HX6.out, HR6.out⟩
                    case measure => simp [intOf]; omega
                · obtain rfl : j = i := by omega
                  obtain ⟨M, hM⟩ : ∃ M, M = memI K j (K f) := ⟨_, rfl⟩
                  rw [← hM] at HR
                  have HM := Lib.hid hM
                  have hml : M.length ≤ j := by rw [hM]; exact memI_len K j (K f)
                  have hmv : OwnI wr w1.heap.size u14 M := HR.out.get (i := 0) rfl
                  obtain ⟨ma, mn, mc, rfl⟩ := own_slice hmv
                  obtain ⟨-, hmn, -⟩ := hmv.ints
                  subst hmn
                  clear hM hmv
                  go_wp2_with (fail)
                  (with_reducible refine (refShuffle_any _ M.length _ (by omega)).mono ?_); rintro e w2 ⟨ia, ic, rfl, he2, ho2⟩
                  have hil := shufI_len (IntKind.u64.wrap (IntKind.u64.wrap (sd + 1) + (f : Int) * 7919)) M.length (by omega)
                  have HIA := Lib.hid (shufI_at (IntKind.u64.wrap (IntKind.u64.wrap (sd + 1) + (f : Int) * 7919)) M.length (by omega))
                  have HGE : Hid (refG K j sd f = (shufL (IntKind.u64.wrap (IntKind.u64.wrap (sd + 1) + (f : Int) * 7919)) (rngI M.length)).map fun q => nth M q.toNat) := by
                    rw [Hid, seedM_nat sd f (by omega), HM.out]; exact refG_eq' K j sd f
                  generalize shufL (IntKind.u64.wrap (IntKind.u64.wrap (sd + 1) + (f : Int) * 7919)) (rngI M.length) = IN at hil HIA HGE ho2 ⊢
                  rw [hil] at ho2 ⊢
                  have HIL := Lib.hid hil
                  have HR3 := Lib.hid (HR.out.add hx.size he2 ho2)
                  have HX3 := Lib.hid (hx.trans he2)
                  clear hil ho2 he2 HR B0 B1 hr0
                  go_wp2_with (fail)
                  go_loopw [7, 17] (fun o i2 wr => ∃ (k : Nat), k ≤ M.length ∧ i2 = .int .i64 k ∧ Hid (Ext w1 wr) ∧ Hid (RowsAt wr w1.heap.size [rwI (.slice ia M.length ic) IN, rwI (.slice ma M.length mc) M, rwI (.slice (some ⟨wb, wo2, none⟩) G.length wc) WY, rwI (.slice (some ⟨gb, go2, none⟩) G.length gc') (natI G), rwI o (O1 ++ (IN.take k).map fun q => nth M q.toNat)])) (fun _ i2 _ => M.length - (intOf i2).toNat)
                  case atStart => exact ⟨0, Nat.zero_le _, rfl, HX3.out, Lib.hid (by simpa using HR3.out)⟩
                  case round =>
                    obtain ⟨k, hk, rfl, HX, HR⟩ := hrel
                    have hx := HX.out
                    have Er := Ext.refl wr
                    by_cases hlk : k < M.length
                    · obtain ⟨p, hp, hwp⟩ := HIA.out k hlk
                      have hoi : OwnI wr w1.heap.size (.slice ia M.length ic) IN := HR.out.get (i := 0) rfl
                      have hom : OwnI wr w1.heap.size (.slice ma M.length mc) M := HR.out.get (i := 1) rfl
                      obtain ⟨ib, io2, rfl, di⟩ := hoi.ints.1.at k (by rw [HIL.out]; exact hlk)
                      obtain ⟨mb, mo2, rfl, dm⟩ := hom.ints.1.at p hp
                      rw [hwp] at di
                      have hpl : (p : Int) < (M.length : Int) := by omega
                      have hp0 : (0 : Int) ≤ (p : Int) := by omega
                      have HTK : Hid ((O1 ++ (IN.take (k + 1)).map fun q => nth M q.toNat) = (O1 ++ (IN.take k).map fun q => nth M q.toNat) ++ [nth M p]) := by
                        have hkw : k < IN.length := by rw [HIL.out]; exact hlk
                        have e1 : IN[k] = (p : Int) := by rw [← nth_eq IN k hkw]; exact hwp
                        rw [Hid, List.take_add_one, List.getElem?_eq_getElem hkw, List.map_append, ← List.append_assoc, e1]
                        simp
                      have hol : (O1 ++ (IN.take k).map fun q => nth M q.toNat).length ≤ 16000000000000 := by
                        rw [List.length_append, List.length_map, List.length_take]
                        have h1 := HO1.out.1
                        have h2 : j * j ≤ 2000 * 2000 := Nat.mul_le_mul hn hn
                        have h3 : b * (j * j) ≤ 1001 * (2000 * 2000) := Nat.mul_le_mul (by omega) h2
                        omega
                      have HR5 := HR.out
                      obtain ⟨O2, hO2⟩ : ∃ O2, O2 = (O1 ++ (IN.take k).map fun q => nth M q.toNat) := ⟨_, rfl⟩
                      rw [← hO2] at HR5 HTK hol
                      have HAP := Lib.hid (HR5.app1 (i := 4) rfl hx.size hol (nth M p))
                      clear hoi hom hwp hol HR HR5 hO2
                      obtain ⟨z, hz⟩ : ∃ z, z = nth M p := ⟨_, rfl⟩
                      rw [← hz] at dm HAP HTK
                      clear hz
                      go_wp2_with (at_builtin; refine wpList_app _ rfl _ _ 31 rfl _ HAP.out ?_; rintro v' w6 ⟨hv6, ⟨a6, c6, rfl⟩, he6⟩)
                      have HR6 := Lib.hid hv6
                      rw [← HTK.out] at HR6
                      have HX6 : Hid (Ext w1 w6) := he6 w1 hx (Nat.le_refl _)
                      clear hv6 he6 HAP HTK
                      go_wp2_with (fail)
                      go_roundw
                      case rel => exact ⟨k + 1, by omega, by go_num, HX6.out, HR6.out⟩
                      case measure => simp [intOf]; omega
                    · obtain rfl : k = M.length := by omega
                      have HR7 : Hid (RowsAt wr w1.heap.size [rwI (.slice (some ⟨wb, wo2, none⟩) G.length wc) WY, rwI (.slice (some ⟨gb, go2, none⟩) G.length gc') (natI G), rwI u7 (O ++ (WY.take (g + 1)).flatMap R)]) := by
                        have := HR.out
                        rw [show IN.take M.length = IN by rw [← HIL.out]; exact List.take_length, ← HGE.out, ← HO1.out.2] at this
                        exact this.sub (.cons _ (.cons _ (List.Sublist.refl _)))
                      clear HR
                      go_wp2_with (fail)
                      go_roundw
                      case rel => exact ⟨g + 1, by omega, by go_num, HX.out, HR7.out⟩
                      case measure => simp [intOf]; omega
            · obtain rfl : g = G.length := by omega
              have HR8 : Hid (RowsAt wr w1.heap.size [rwI u7 (refO (b + 1) K i sd)]) := by
                have := HR.out
                rw [show WY.take G.length = WY by rw [← HWL.out]; exact List.take_length, ← HFB.out, ← HO.out.2] at this
                exact this.sub (.cons _ (.cons _ (List.Sublist.refl _)))
              clear HR
              go_wp2_with (fail)
              go_roundw
              case rel => exact ⟨b + 1, by omega, by go_num, HX.out, HR8.out⟩
              case measure => simp [intOf]; omega
    · obtain rfl : b = 1001 := by omega
      have hov : OwnI wr w1.heap.size u7 (refO 1001 K n sd) := HR.out.get (i := 0) rfl
      obtain ⟨oa, on, oc, rfl⟩ := own_slice hov
      obtain ⟨-, hon, -⟩ := hov.ints
      subst hon
      have HOV : Hid (OwnI wr w.heap.size (.slice oa (refO 1001 K n sd).length oc) (refO 1001 K n sd)) := own_down hov HE.out.size
      clear hov HR
      go_wp2_with (fail)
      go_ret
      exact ⟨oa, oc, rfl, HE.out.trans HX.out, HOV.out⟩
end Go.Proofs.YtplbofhgmflnlaaGreat
