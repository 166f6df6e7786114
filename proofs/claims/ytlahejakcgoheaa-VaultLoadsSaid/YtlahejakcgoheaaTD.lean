/-
  Walks of the reference: Load.
-/
import Derived.Test.YtlahejakcgoheaaTA
import Derived.Test.YtlahejakcgoheaaTC
set_option linter.unusedVariables false
set_option linter.unusedSimpArgs false
namespace Go.Proofs.Ytlahejakcgoheaa
open Go.RowKit
theorem size59 (w : World) : (Go.sizeOf 59).run Try.prog w = .ok 10 w := by
  obtain ⟨i0, hi, hz0, hz1, hz2⟩ := info_parts info59
  simp [Go.sizeOf, typeInfo, hi, hz1]
theorem add0 (a : Option Addr) : a.map (·.add 0) = a := by cases a <;> simp [Addr.add]
@[go_sem ↓] theorem run_cutAt_h38 (a : Option Addr) (len cap : Nat) (h : Int) (h0 : 0 ≤ h) (h2 : h ≤ cap) (w : World) :
    (Instr.sliceAt 38 (.slice a len cap) none (some (.int .i64 h)) none).run Try.prog w = .ok (.slice a h.toNat cap) w := by
  rw [run_sliceAt_slice (P := Try.prog) w 38 _ _ _ _ (by simp [Program.elem, Try.underlying38]), run_slice_h (P := Try.prog) w 38 a len cap (by simp [Program.elem, Try.underlying38]) .i64 h h0 h2]
  have e : Try.prog.elem 38 = 59 := by simp [Program.elem, Try.underlying38]
  rw [e, size59]
  simp only [Result.andThen, sliced, Nat.zero_mul, add0, ite_self, Nat.sub_zero]
@[go_sem ↓] theorem run_cutAt_h23 (a : Option Addr) (len cap : Nat) (h : Int) (h0 : 0 ≤ h) (h2 : h ≤ cap) (w : World) :
    (Instr.sliceAt 23 (.slice a len cap) none (some (.int .i64 h)) none).run Try.prog w = .ok (.slice a h.toNat cap) w := by
  rw [run_sliceAt_slice (P := Try.prog) w 23 _ _ _ _ (by simp [Program.elem, Try.underlying23]), run_slice_h (P := Try.prog) w 23 a len cap (by simp [Program.elem, Try.underlying23]) .i64 h h0 h2]
  have e : Try.prog.elem 23 = 5 := by simp [Program.elem, Try.underlying23]
  rw [e, size5]
  simp only [Result.andThen, sliced, Nat.zero_mul, add0, ite_self, Nat.sub_zero]
theorem lth_take {xs : List Lv} {k i : Nat} (h : i < k) (hk : i < xs.length) : lth (xs.take k) i = lth xs i := by
  rw [lth_eq _ _ (by rw [List.length_take]; omega), lth_eq _ _ hk, List.getElem_take]
theorem Links.take {w : World} {a : Option Addr} {xs : List Lv} (h : Links w a xs) (k : Nat) : Links w a (xs.take k) := by
  refine ⟨?_, fun i hi => ?_⟩
  · rcases h.1 with rfl | ⟨b, o, h1, h2⟩
    · exact .inl (by simp)
    · refine .inr ⟨b, o, h1, fun i hi => ?_⟩
      rw [List.length_take] at hi
      rw [lth_take (by omega) (by omega)]; exact h2 i (by omega)
  · rw [List.length_take] at hi
    rw [lth_take (by omega) (by omega)]; exact h.2 i (by omega)
/-- What the reference's 'Load' leaves. -/
def RetLoadR (ls : List Lk) (w : World) (e : Ending) (w' : World) : Prop := ∃ a n c, e = .returned (.tuple #[rv (decide (loadE ls ≠ 0)) a n c, .int .i64 (loadE ls)]) ∧ Ext w w' ∧ (loadE ls ≠ 0 → a = none ∧ n = 0 ∧ c = 0)
theorem RetLoadR.bad {ls : List Lk} {q : Int} (h : loadE ls = q) (h0 : q ≠ 0) {w w' : World} (e : Ext w w') : RetLoadR ls w (.returned (.tuple #[rv true none 0 0, .int .i64 q])) w' := by
  refine ⟨none, 0, 0, ?_, e, fun _ => ⟨rfl, rfl, rfl⟩⟩
  rw [h, decide_eq_true h0]
theorem RetLoadR.good {ls : List Lk} (h : loadE ls = 0) {a : Option Addr} {n c : Nat} {w w' : World} (e : Ext w w') : RetLoadR ls w (.returned (.tuple #[rv false a n c, .int .i64 0])) w' := by
  refine ⟨a, n, c, ?_, e, fun h0 => absurd h h0⟩
  rw [h]; rfl
theorem putsP_step {ls : List Lk} {k : Nat} (hk : k < ls.length) {S : PV} (hS : putsP PV.new (ls.take k) = some S) : putsP PV.new (ls.take (k + 1)) = if couldB S ls[k] = true then some (putS S ls[k]) else none := by
  rw [List.take_succ_eq_append_getElem hk, putsP_app, hS]
  show putsP S [ls[k]] = _
  unfold putsP
  split
  · rfl
  · rfl
theorem putsP_none {ls : List Lk} {k : Nat} (h : putsP PV.new (ls.take k) = none) : putsP PV.new ls = none := by
  have e := List.take_append_drop k ls
  rw [← e, putsP_app, h]; rfl
set_option maxRecDepth 100000 in
set_option maxHeartbeats 4000000 in
theorem rload_any (a : Option Addr) (xs : List Lv) (c : Nat) (w : World) (h : Links w a xs) (ho : LksOk xs) (hsm : ∀ l ∈ lks xs, SmL l) (hl : xs.length ≤ 1000000) (hc : xs.length ≤ c) :
    Calls Try.prog 35 #[.slice a xs.length c] w (RetLoadR (lks xs) w) := by
  have hck := fun W (e : Ext w W) => rcheck_any a xs c W (h.ext e) ho hsm hl
  have hge := checkI_ge (lks xs) 7 0
  obtain ⟨ck, hcke⟩ : ∃ ck, ck = checkI 7 0 (lks xs) := ⟨_, rfl⟩
  obtain ⟨n, hn⟩ : ∃ n, n = xs.length := ⟨_, rfl⟩
  rw [← hcke] at hge
  rw [← hcke, ← hn] at hck
  rw [← hn] at hl hc ⊢
  have hln : (lks xs).length = n := by rw [lks_len, hn]
  have HX := Lib.hid h; have HO := Lib.hid ho; have HSM := Lib.hid hsm; have HCK := Lib.hid hck; have HCE := Lib.hid hcke; have HN := Lib.hid hn; have HLN := Lib.hid hln
  clear h ho hsm hck hcke hn hln
  go_enter Try.func35, Try.ntmps35
  go_upto_region 1 with fail
  generalize hw1 : World.alloc _ _ = w1
  obtain ⟨he, o1, -⟩ := alloc1 hw1
  have HE := Lib.hid he
  obtain ⟨z0, z1⟩ := obj_cells2 o1
  have O1 := Lib.hid o1
  have f1 := obj_free o1
  have E1 := Ext.refl w1
  clear hw1 o1
  have hset : ∀ W u v, Ext w1 W → Ext w ((W.setCell ⟨w.heap.size, 0, none⟩ u).setCell ⟨w.heap.size, 1, none⟩ v) := fun W u v e => set2_ext (HE.out.trans e) (Nat.le_refl _) _ _
  have HSET := Lib.hid hset
  clear hset
  by_cases h2 : 20000 < n
  · have h2' : (20000 : Int) < (n : Int) := by omega
    have hle : Hid (loadE (lks xs) = 5) := by rw [Hid]; unfold loadE; rw [if_pos (by rw [HLN.out]; exact h2)]
    go_wp2_with (fail)
    refine bodyPost_ret (v := .tuple #[rv true none 0 0, .int .i64 5]) (by simp [results, Try.results35, go_sem, z0 _ E1, z1 _ E1]) rfl (RetLoadR.bad hle.out (by omega) (HSET.out w1 _ _ (Ext.refl _)))
  · have h2' : ¬ (20000 : Int) < (n : Int) := by omega
    go_wp2_with (fail)
    (with_reducible refine (HCK.out _ he).mono ?_); rintro e w2 ⟨rfl, he2⟩
    have E2 := Ext.refl w2
    by_cases h3 : ck = -1
    · have hneg : Hid (checkI 7 0 (lks xs) < 0) := by rw [Hid, ← HCE.out, h3]; omega
      subst h3
      clear E1
      go_wp2_with (fail)
      go_loopw [4] (fun i wr => ∃ k : Nat, k ≤ n ∧ i = .int .i64 k ∧ Hid (∃ S, putsP PV.new ((lks xs).take k) = some S) ∧ Hid (Ext w1 wr)) (fun i _ => n - (intOf i).toNat)
      case atStart => exact ⟨0, Nat.zero_le _, rfl, ⟨PV.new, rfl⟩, he2⟩
      case round =>
        obtain ⟨k, hk, rfl, hS, her⟩ := hrel
        by_cases hlt : k < n
        · obtain ⟨S, hS⟩ := hS.out
          have hlx : k < xs.length := by rw [← HN.out]; exact hlt
          have hll : k < (lks xs).length := by rw [HLN.out]; exact hlt
          obtain ⟨b, o, rfl, hc⟩ := HX.out.at k hlx
          obtain ⟨x, hx⟩ : ∃ x, x = lth xs k := ⟨_, rfl⟩
          have hxl : (lks xs)[k] = x.l := by rw [hx, lth_eq _ _ hlx]; simp [lks]
          have hst := putsP_step hll hS
          rw [hxl] at hst
          have hgs := good_puts hneg.out k (by omega) S hS
          have hch := putsP_chain _ _ _ hS
          have hrv : RvAt w S (some ⟨b, o, none⟩) (xs.take k) := ⟨HX.out.take k, fun i hi => by rw [List.length_take] at hi; rw [lth_take (by omega) (by omega)]; exact HO.out i (by omega), by rw [hch]; simp [lks, PV.new, List.map_take], hgs⟩
          have hxo : LkOk x.l := by rw [hx]; exact HO.out k hlx
          have hxs : SmL x.l := HSM.out _ (by rw [← hxl]; exact List.getElem_mem hll)
          have hcd := fun W (e : Ext w W) => rcould_any S (some ⟨b, o, none⟩) (xs.take k) c x W (hrv.ext e) hxo hxs
          rw [List.length_take, Nat.min_eq_left (by omega)] at hcd
          obtain ⟨g, hg⟩ : ∃ g, g = couldB S x.l := ⟨_, rfl⟩
          rw [← hg] at hcd hst
          rw [← hx] at hc
          have hew := HE.out.trans her.out
          have hcl := fun W (e : Ext wr W) => hc W (hew.trans e)
          have c0 := fun W (e : Ext wr W) => (hcl W e).1
          have c1 := fun W (e : Ext wr W) => (hcl W e).2.1
          have c2 := fun W (e : Ext wr W) => (hcl W e).2.2.1
          have c3 := fun W (e : Ext wr W) => (hcl W e).2.2.2.1
          have c4 := fun W (e : Ext wr W) => (hcl W e).2.2.2.2.1
          have c5 := fun W (e : Ext wr W) => (hcl W e).2.2.2.2.2.1
          have c6 := fun W (e : Ext wr W) => (hcl W e).2.2.2.2.2.2.1
          have c7 := fun W (e : Ext wr W) => (hcl W e).2.2.2.2.2.2.2.1
          have c8 := fun W (e : Ext wr W) => (hcl W e).2.2.2.2.2.2.2.2.1
          have c9 := fun W (e : Ext wr W) => (hcl W e).2.2.2.2.2.2.2.2.2
          have HCD : Hid (∀ W, Ext wr W → Calls Try.prog 61 #[.agg #[.bool false, .slice (some ⟨b, o, none⟩) k c], lval x] W (Ret (.bool g) W)) := fun W e => hcd W (hew.trans e)
          have HST := Lib.hid hst; have HS := Lib.hid hS
          have hi0 : (0 : Int) ≤ (k : Int) := by omega
          have hi1 : (k : Int) < (n : Int) := by omega
          have hi2 : (k : Int) ≤ (c : Int) := by omega
          have hr0 := Ext.refl wr
          clear hc hcl hcd hst hS hgs hch hrv hxo hxs hx hxl hg hew
          go_upto_region 8 with fail
          refine wp_region_ext (by kernel_rfl) (by kernel_rfl) hr0 ?_
          repeat (first | go_big_quiet_step (((go_at_call 61; exact Calls.later (HCD.out _ (Later.ok _))))) | quiet_step (((go_at_call 61; exact Calls.later (HCD.out _ (Later.ok _))))))
          refine wpQuiet_nil ?_
          rintro _ ⟨nq, rfl⟩
          have he8 := her.out.trans nq.ok
          clear c0 c1 c2 c3 c4 c5 c6 c7 c8 c9
          cases g
          · have hle : Hid (loadE (lks xs) = 112) := by
              have hn := HST.out
              rw [if_neg (by simp)] at hn
              have hn2 := putsP_none hn
              rw [Hid]; unfold loadE
              rw [if_neg (by rw [HLN.out]; exact h2), if_neg (by have := hneg.out; omega), hn2]; rfl
            go_wp2_with (fail)
            refine bodyPost_ret (v := .tuple #[rv true none 0 0, .int .i64 112]) (by simp [results, Try.results35, go_sem, z0 _ he8, z1 _ he8]) rfl (RetLoadR.bad hle.out (by omega) (HSET.out _ _ _ he8))
          · have hn := HST.out
            rw [if_pos rfl] at hn
            have HN2 := Lib.hid hn
            clear hn
            go_wp2_with (fail)
            go_roundw
            case rel => exact ⟨k + 1, by omega, by go_num, ⟨_, HN2.out⟩, he8⟩
            case measure => simp [intOf]; omega
        · obtain rfl : k = n := by omega
          have hle : Hid (loadE (lks xs) = 0) := by
            obtain ⟨S, hS⟩ := hS.out
            rw [List.take_of_length_le (by rw [HLN.out]; exact Nat.le_refl _)] at hS
            rw [Hid]; unfold loadE
            rw [if_neg (by rw [HLN.out]; exact h2), if_neg (by have := hneg.out; omega), hS]; rfl
          have hap := app_rows 38 (wr.alloc (.cells #[] 59)) wr.heap.size _ [] xs a c (own_empty wr 59 10) (HX.out.ext ((HE.out.trans her.out).alloc _)) (by have := HN.out; simp; omega) (by rw [heap_size]; omega)
          rw [← HN.out] at hap
          have HAPP := Lib.hid hap
          have HLT := Lib.hid (World.ownsRow.lt (own_empty wr 59 10))
          have HWR := Lib.hid (her.out.alloc (.cells #[] 59))
          have z0r := fun W (e : Ext wr W) => z0 W (her.out.trans e)
          clear hap hS
          go_upto_region 10 with fail
          go_wp2_with (first | (at_builtin; refine wpList_app _ rfl _ _ 38 rfl _ HAPP.out ?_; clear HAPP; rintro v' w10 ⟨ho5, hg5, -⟩; have he10 := grown_ext HWR.out hg5 (fun k hk => by have := (HLT.out k hk).1; have := her.out.size; omega); obtain ⟨a5, c5, rfl⟩ := ownL_slice ho5; obtain ⟨m5, hm5⟩ : ∃ m, m = ([] ++ xs).length := ⟨_, rfl⟩; rw [← hm5]; have HE10 := Lib.hid he10; have y0 := z0 w10 he10; have y1 := z1 w10 he10; have g1 := f1 w10 he10; clear ho5 hg5 he10 hm5) | fail)
          refine bodyPost_ret (v := .tuple #[rv false a5 m5 c5, .int .i64 0]) (by simp [results, Try.results35, go_sem, y0, y1]) rfl (RetLoadR.good hle.out (HSET.out _ _ _ HE10.out))
    · have hge2 : Hid (0 ≤ checkI 7 0 (lks xs)) := by rw [Hid, ← HCE.out]; omega
      have hle : Hid (loadE (lks xs) = 112) := by
        rw [Hid]; unfold loadE
        rw [if_neg (by rw [HLN.out]; exact h2), if_pos hge2.out]
      go_wp2_with (fail)
      refine bodyPost_ret (v := .tuple #[rv true none 0 0, .int .i64 112]) (by simp [results, Try.results35, go_sem, z0 _ he2, z1 _ he2]) rfl (RetLoadR.bad hle.out (by omega) (HSET.out _ _ _ he2))
end Go.Proofs.Ytlahejakcgoheaa
