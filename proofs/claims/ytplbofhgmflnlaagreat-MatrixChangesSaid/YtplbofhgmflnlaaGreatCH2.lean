/-
  Walk: the reference's Least.
-/
import Derived.Test.YtplbofhgmflnlaaGreatCH1
import Derived.Test.YtplbofhgmflnlaaGreatMX1
set_option linter.unusedVariables false
set_option linter.unusedSimpArgs false
namespace Go.Proofs.YtplbofhgmflnlaaGreat
open Go.RowKit
def atI : Option (Nat × Int) → Int | none => -1 | some (a, _) => (a : Int)
def coI : Option (Nat × Int) → Int | none => 0 | some (_, v) => v
theorem joinC_bd {T : Nat → Nat → Int} {n : Nat} {M : Int} (hM : 0 ≤ M) (hT : ∀ p q, 0 ≤ T p q ∧ T p q ≤ M) {vs : List Nat} (hb : ∀ x ∈ vs, x < n) (i : Nat) : 0 ≤ joinC T n vs i ∧ joinC T n vs i ≤ M := by
  by_cases h : vs = []
  · unfold joinC; rw [if_pos h]; omega
  · obtain ⟨⟨k, hk, e⟩, -⟩ := joinC_spec (T := T) (i := i) h hb
    rw [← e]; exact hT k i
theorem primF_ok {T : Nat → Nat → Int} {n : Nat} {M : Int} (hM : 0 ≤ M) (hT : ∀ p q, 0 ≤ T p q ∧ T p q ≤ M) : ∀ r : Nat, r ≤ n → (primF T n r).1.Nodup ∧ (primF T n r).1.length = r ∧ (∀ x ∈ (primF T n r).1, x < n) ∧ 0 ≤ (primF T n r).2 ∧ (primF T n r).2 ≤ M * (r : Int)
  | 0, _ => ⟨List.nodup_nil, rfl, fun x hx => (by simp [primF] at hx), Int.le_refl _, by simp [primF]⟩
  | r + 1, hr => by
    obtain ⟨h1, h2, h3, h4, h5⟩ := primF_ok (T := T) (n := n) hM hT r (by omega)
    cases hpk : pickF (joinC T n (primF T n r).1) (fun j => decide (j ∈ (primF T n r).1)) n with
    | none =>
      exfalso
      have hall := (pickF_none n).1 hpk
      have hsub : ∀ x ∈ List.range n, x ∈ (primF T n r).1 := fun x hx => by
        have := hall x (List.mem_range.1 hx)
        simpa using this
      have := List.Nodup.length_le_of_subset List.nodup_range hsub
      rw [List.length_range, h2] at this
      omega
    | some av =>
      obtain ⟨a, v⟩ := av
      obtain ⟨g1, g2, g3, -⟩ := pickF_some n hpk
      have hna : a ∉ (primF T n r).1 := by simpa using g2
      have hv := joinC_bd hM hT h3 a
      rw [← g3] at hv
      simp only [primF, hpk]
      refine ⟨?_, by simp [h2], fun x hx => ?_, by omega, ?_⟩
      · rw [List.nodup_append]
        exact ⟨h1, by simp, fun x hx y hy e => by rw [List.mem_singleton] at hy; subst hy; subst e; exact hna hx⟩
      · rw [List.mem_append, List.mem_singleton] at hx
        rcases hx with hx | rfl
        · exact h3 x hx
        · exact g1
      · have : M * ((r + 1 : Nat) : Int) = M * (r : Int) + M := by rw [Int.natCast_add, Int.mul_add]; simp
        rw [this]; omega
theorem primF_pick {T : Nat → Nat → Int} {n : Nat} {M : Int} (hM : 0 ≤ M) (hT : ∀ p q, 0 ≤ T p q ∧ T p q ≤ M) {r : Nat} (hr : r < n) : ∃ a : Nat, a < n ∧ atI (pickF (joinC T n (primF T n r).1) (fun j => decide (j ∈ (primF T n r).1)) n) = (a : Int) ∧
    primF T n (r + 1) = ((primF T n r).1 ++ [a], (primF T n r).2 + coI (pickF (joinC T n (primF T n r).1) (fun j => decide (j ∈ (primF T n r).1)) n)) := by
  have h6 := (primF_ok (T := T) (n := n) hM hT (r + 1) (by omega)).2.1
  cases hpk : pickF (joinC T n (primF T n r).1) (fun j => decide (j ∈ (primF T n r).1)) n with
  | none =>
    have h2 := (primF_ok (T := T) (n := n) hM hT r (by omega)).2.1
    simp only [primF, hpk] at h6
    omega
  | some av =>
    obtain ⟨a, v⟩ := av
    obtain ⟨g1, -, -, -⟩ := pickF_some n hpk
    exact ⟨a, g1, rfl, by simp only [primF, hpk]; rfl⟩
theorem pick_bd {c : Nat → Int} {inB : Nat → Bool} {M : Int} (hM : 0 ≤ M) (hc : ∀ i, 0 ≤ c i ∧ c i ≤ M) (k : Nat) : -1 ≤ atI (pickF c inB k) ∧ atI (pickF c inB k) ≤ (k : Int) ∧ 0 ≤ coI (pickF c inB k) ∧ coI (pickF c inB k) ≤ M := by
  cases h : pickF c inB k with
  | none => exact ⟨Int.le_refl _, (by show (-1 : Int) ≤ (k : Int); omega), Int.le_refl _, hM⟩
  | some av =>
    obtain ⟨a, v⟩ := av
    obtain ⟨g1, -, g3, -⟩ := pickF_some k h
    have := hc a
    simp only [atI, coI]
    omega
theorem pick_in {c : Nat → Int} {inB : Nat → Bool} {k : Nat} (h : inB k = true) : pickF c inB (k + 1) = pickF c inB k := by simp [pickF, h]
theorem pick_take {c : Nat → Int} {inB : Nat → Bool} {k : Nat} (h : inB k = false) (h2 : atI (pickF c inB k) < 0 ∨ c k < coI (pickF c inB k)) : atI (pickF c inB (k + 1)) = (k : Int) ∧ coI (pickF c inB (k + 1)) = c k := by
  simp only [pickF, h]
  cases hp : pickF c inB k with
  | none => simp [atI, coI]
  | some av =>
    obtain ⟨a, v⟩ := av
    rw [hp] at h2
    simp only [atI, coI] at h2
    have : c k < v := by omega
    simp [this, atI, coI]
theorem pick_keep {c : Nat → Int} {inB : Nat → Bool} {k : Nat} (h : inB k = false) (h2 : ¬ atI (pickF c inB k) < 0) (h3 : ¬ c k < coI (pickF c inB k)) : pickF c inB (k + 1) = pickF c inB k := by
  simp only [pickF, h]
  cases hp : pickF c inB k with
  | none => rw [hp] at h2; exact absurd (by decide) h2
  | some av =>
    obtain ⟨a, v⟩ := av
    rw [hp] at h3
    simp only [coI] at h3
    simp [h3]
theorem min_take {T : Nat → Nat → Int} {inB : Nat → Bool} {i k : Nat} (h : inB k = true) (h2 : (minIn T inB i k).isNone = true ∨ T k i < (minIn T inB i k).getD 0) : minIn T inB i (k + 1) = some (T k i) := by
  have : lessO (minIn T inB i k) (T k i) = true := by
    cases hm : minIn T inB i k with
    | none => rfl
    | some c => rw [hm] at h2; simpa [lessO] using h2
  simp [minIn, h, this]
theorem min_keep {T : Nat → Nat → Int} {inB : Nat → Bool} {i k : Nat} (h : inB k = false ∨ ((minIn T inB i k).isNone = false ∧ ¬ T k i < (minIn T inB i k).getD 0)) : minIn T inB i (k + 1) = minIn T inB i k := by
  rcases h with h | ⟨h1, h2⟩
  · simp [minIn, h]
  · have : lessO (minIn T inB i k) (T k i) = false := by
      cases hm : minIn T inB i k with
      | none => rw [hm] at h1; cases h1
      | some c => rw [hm] at h2; simpa [lessO] using h2
    simp [minIn, this]
theorem min_bd {T : Nat → Nat → Int} {inB : Nat → Bool} {i : Nat} {M : Int} (hM : 0 ≤ M) (hT : ∀ p q, 0 ≤ T p q ∧ T p q ≤ M) : ∀ k, 0 ≤ (minIn T inB i k).getD 0 ∧ (minIn T inB i k).getD 0 ≤ M
  | 0 => by simp [minIn, hM]
  | k + 1 => by
    have := min_bd hM hT (inB := inB) (i := i) k
    simp only [minIn]
    split
    · exact hT k i
    · exact this
theorem joinC_nil (T : Nat → Nat → Int) (n i : Nat) : joinC T n [] i = 0 := by simp [joinC]
theorem joinC_min {T : Nat → Nat → Int} {n i : Nat} {vs : List Nat} (h : vs ≠ []) : joinC T n vs i = (minIn T (fun j => decide (j ∈ vs)) i n).getD 0 := by simp [joinC, h]
theorem bit_cell {W : World} {B g n : Nat} {V : List Nat} (h : OwnT W B (.slice (some ⟨g, 0, none⟩) n n) (BIT n (natI V))) (i : Nat) (hi : i < n) : W.cell? ⟨g, i, none⟩ = some (.bool (decide (i ∈ V))) := by
  have hil : i < (BIT n (natI V)).length := by rw [BIT_len]; exact hi
  obtain ⟨g', hg, -, -, hc⟩ := OwnF.cell bitC_len h i hil
  simp only [Option.some.injEq, Addr.mk.injEq, and_true] at hg
  subst hg
  have := hc 0 (by omega)
  rw [Nat.mul_one, Nat.add_zero, BIT_at _ _ _ hi] at this
  rw [this]
  have e : decide ((i : Int) ∈ natI V) = decide (i ∈ V) := by
    rw [decide_eq_decide]
    unfold natI
    rw [List.mem_map]
    constructor
    · rintro ⟨x, hx, e⟩
      have : x = i := by omega
      rw [← this]; exact hx
    · exact fun h => ⟨i, h, rfl⟩
  rw [e]; rfl
set_option maxRecDepth 100000 in
set_option maxHeartbeats 4000000 in
theorem rLeast_any (P : Pw) (a : Option Addr) (ss : List Se) (sc : Nat) (w : World) (hp : PlanAt w P) (hf : P.fs.length ≤ 8) (hc : ∀ i, i < P.fs.length → 0 ≤ (fth P.fs i).cost ∧ (fth P.fs i).cost ≤ 1000) (hs : SetsAt w a ss) (hn : ss.length ≤ 2000)
    (hl : ∀ j, j < ss.length → (eth ss j).lv.xs.length = P.fs.length) :
    Calls Tryz.prog 67 #[planV P, .slice a ss.length sc] w (Ret (.int .i64 (primF (costM P.fs ss) ss.length ss.length).2) w) := by
  have hco : ∀ W, Ext w W → ∀ p q, p < ss.length → q < ss.length → Calls Tryz.prog 105 #[planV P, setV (eth ss p), setV (eth ss q)] W (Ret (.int .i64 (costM P.fs ss p q)) W) := fun W e p q h1 h2 => rCost_any P (eth ss p) (eth ss q) W (hp.ext e) hf hc ((hs.ext e).lv p h1) ((hs.ext e).lv q h2) (hl p h1) (hl q h2)
  have HBD := Lib.hid (fun p q => costM_bd ss hf hc p q)
  obtain ⟨T, hT⟩ : ∃ T, T = costM P.fs ss := ⟨_, rfl⟩
  rw [← hT] at hco HBD ⊢
  obtain ⟨fs, fa, fc, fo, ga, gc⟩ := P
  try simp only at hco
  have HCO := Lib.hid hco; have HS := Lib.hid hs
  obtain ⟨n, hnn⟩ : ∃ n, n = ss.length := ⟨_, rfl⟩
  have HNN := Lib.hid hnn
  rw [← hnn] at HCO hn ⊢
  have HOK := Lib.hid (fun r (hr : r ≤ n) => primF_ok (T := T) (n := n) (M := 8000) (by omega) HBD.out r hr)
  have HPK := Lib.hid (fun r (hr : r < n) => primF_pick (T := T) (n := n) (M := 8000) (by omega) HBD.out hr)
  have HMK := Lib.hid (run_madeT 50 Tryz.underlying50 n (by omega))
  clear hco hp hs hl hc hT hnn hf
  go_enter Tryz.func67, Tryz.ntmps67
  go_upto_region 1 with fail
  generalize hw1 : World.alloc _ _ = w1
  obtain ⟨he, o1, -⟩ := alloc1 hw1
  obtain ⟨b0, b1⟩ := obj_cells2 o1
  have HE := Lib.hid he
  have E1 := Ext.refl w1
  clear hw1 o1 he
  have hmk := HMK.out
  go_wp2_with (fail)
  generalize hwm : madeT _ _ = wm
  obtain ⟨hem, hom, hsm⟩ := madeT_facts (n := n) (by omega) hwm
  obtain ⟨g, hg⟩ : ∃ g, g = w1.heap.size := ⟨_, rfl⟩
  have HG : Hid (w1.heap.size ≤ g) := by rw [hg]; exact Nat.le_refl _
  rw [← hg] at hom ⊢
  rw [← BIT_nil] at hom
  have HOM := Lib.hid hom; have HEM := Lib.hid hem
  clear hwm hem hom hsm hg hmk HMK E1
  go_loopw [6, 7] (fun s rd wr => ∃ (r : Nat), r ≤ n ∧ rd = .int .i64 r ∧ s = .int .i64 (primF T n r).2 ∧ Hid (Ext w1 wr) ∧ Hid (OwnT wr g (.slice (some ⟨g, 0, none⟩) n n) (BIT n (natI (primF T n r).1)))) (fun _ rd _ => n - (intOf rd).toNat)
  case atStart => exact ⟨0, Nat.zero_le _, rfl, rfl, HEM.out, HOM.out⟩
  case round =>
    obtain ⟨r, hr, rfl, rfl, HX, HO⟩ := hrel
    by_cases hlr : r < n
    · obtain ⟨wo, rfl⟩ : ∃ wo : World, wo = wr := ⟨_, rfl⟩
      obtain ⟨-, hvl, hvb, hs0, hs1⟩ := HOK.out r hr
      obtain ⟨am, ham, hat, hpr⟩ := HPK.out r hlr
      obtain ⟨V, hV⟩ : ∃ V, V = (primF T n r).1 := ⟨_, rfl⟩
      obtain ⟨s, hsv⟩ : ∃ s, s = (primF T n r).2 := ⟨_, rfl⟩
      rw [← hV] at hvl hvb hat hpr HO
      rw [← hsv] at hs0 hs1 hpr ⊢
      have HJB := Lib.hid (fun i => joinC_bd (T := T) (n := n) (M := 8000) (by omega) HBD.out hvb i)
      have HJM : Hid (∀ i, V ≠ [] → joinC T n V i = (minIn T (fun j => decide (j ∈ V)) i n).getD 0) := fun i h => joinC_min h
      have HJ0 : Hid (∀ i, V = [] → joinC T n V i = 0) := fun i h => by rw [h]; exact joinC_nil T n i
      have HVL : Hid (V.length = r) := hvl
      obtain ⟨C, hC⟩ : ∃ C, C = joinC T n V := ⟨_, rfl⟩
      rw [← hC] at HJB HJM HJ0 hat hpr
      obtain ⟨J, hJ⟩ : ∃ J : Nat → Bool, J = fun j => decide (j ∈ V) := ⟨_, rfl⟩
      rw [← hJ] at HJM hat hpr
      have HPB := Lib.hid (fun k => pick_bd (c := C) (inB := J) (M := 8000) (by omega) HJB.out k)
      have HMB := Lib.hid (fun i k => min_bd (T := T) (inB := J) (i := i) (M := 8000) (by omega) HBD.out k)
      have HBC : Hid (∀ W, Ext wo W → ∀ i, i < n → W.cell? ⟨g, i, none⟩ = some (.bool (J i))) := fun W e i hi => by rw [hJ]; exact bit_cell (OwnF.ext HO.out e) i hi
      have HAT := Lib.hid hat; have HPR := Lib.hid hpr
      clear hV hsv hvb hC hJ hat hpr hvl
      go_wp2_with (fail)
      go_loopw [8, 9, 10] (fun av cv iv wr => ∃ (i : Nat), i ≤ n ∧ iv = .int .i64 i ∧ av = .int .i64 (atI (pickF C J i)) ∧ cv = .int .i64 (coI (pickF C J i)) ∧ Hid (Ext wo wr)) (fun _ _ iv _ => n - (intOf iv).toNat)
      case atStart => exact ⟨0, Nat.zero_le _, rfl, rfl, rfl, Ext.refl _⟩
      case round =>
        obtain ⟨i, hi, rfl, rfl, rfl, HXi⟩ := hrel
        have hx := HXi.out
        by_cases hli : i < n
        · have ci := HBC.out wr hx i hli
          have HPI := Lib.hid (fun h => pick_in (c := C) (inB := J) (k := i) h)
          have HPT := Lib.hid (fun h h2 => pick_take (c := C) (inB := J) (k := i) h h2)
          have HPP := Lib.hid (fun h h2 h3 => pick_keep (c := C) (inB := J) (k := i) h h2 h3)
          have hpb := HPB.out i
          obtain ⟨A, hA⟩ : ∃ A, A = atI (pickF C J i) := ⟨_, rfl⟩
          obtain ⟨O, hO⟩ : ∃ O, O = coI (pickF C J i) := ⟨_, rfl⟩
          rw [← hA, ← hO] at HPT HPP hpb
          rw [← hA, ← hO]
          have HA := Lib.hid hA; have HOO := Lib.hid hO
          clear hA hO
          have Er := Ext.refl wr
          cases TI : J i
          · rw [TI] at ci
            have HPT2 := Lib.hid (HPT.out TI); have HPP2 := Lib.hid (HPP.out TI)
            clear HPT HPP HPI TI
            obtain ⟨wi, rfl⟩ : ∃ wi : World, wi = wr := ⟨_, rfl⟩
            go_wp2_with (fail)
            go_loopw [11, 12, 13] (fun c kv fv wr => ∃ (k : Nat), k ≤ n ∧ (r = 0 → k = 0) ∧ kv = .int .i64 k ∧ c = .int .i64 ((minIn T J i k).getD 0) ∧ fv = .bool (minIn T J i k).isNone ∧ Hid (Ext wi wr)) (fun _ kv _ _ => n - (intOf kv).toNat)
            case atStart => exact ⟨0, Nat.zero_le _, fun _ => rfl, rfl, rfl, rfl, Ext.refl _⟩
            case round =>
              obtain ⟨k, hk, hk0, rfl, rfl, rfl, HXk⟩ := hrel
              have hxk := HXk.out
              have hmb := HMB.out i k
              have B0 := fun W (e : Ext wr W) => b0 W ((HX.out.trans (hx.trans hxk)).trans e)
              have B1 := fun W (e : Ext wr W) => b1 W ((HX.out.trans (hx.trans hxk)).trans e)
              have hr0 := Ext.refl wr
              by_cases hbd : 0 < r ∧ k < n
              · obtain ⟨hb1, hb2⟩ := hbd
                have hri : (0 : Int) < (r : Int) := by omega
                have HMT := Lib.hid (fun h h2 => min_take (T := T) (inB := J) (i := i) (k := k) h h2)
                have HMP := Lib.hid (fun h => min_keep (T := T) (inB := J) (i := i) (k := k) h)
                have hdb := HBD.out k i
                have HCL := Lib.hid (fun n' : Later wr => HCO.out n'.val ((HE.out.trans (HX.out.trans (hx.trans hxk))).trans n'.ok) k i hb2 hli)
                obtain ⟨d, hd⟩ : ∃ d, d = T k i := ⟨_, rfl⟩
                obtain ⟨m, hm⟩ : ∃ m, m = (minIn T J i k).getD 0 := ⟨_, rfl⟩
                obtain ⟨z, hz⟩ : ∃ z, z = (minIn T J i k).isNone := ⟨_, rfl⟩
                rw [← hd] at HMT HMP HCL hdb
                rw [← hm] at HMT HMP hmb
                rw [← hz] at HMT HMP
                rw [← hm, ← hz]
                have HM := Lib.hid hm; have HZ := Lib.hid hz
                clear hd hm hz
                obtain ⟨sb, so, rfl, d0, d1⟩ := set_at (HS.out.ext (HE.out.trans (HX.out.trans (hx.trans hxk)))).row k (by rw [← HNN.out]; exact hb2)
                obtain ⟨sb', so', hbo, e0, e1⟩ := set_at (HS.out.ext (HE.out.trans (HX.out.trans (hx.trans hxk)))).row i (by rw [← HNN.out]; exact hli)
                simp only [Option.some.injEq, Addr.mk.injEq, and_true] at hbo
                obtain ⟨rfl, rfl⟩ := hbo
                have ck : ∀ W, Ext wr W → W.cell? ⟨g, k, none⟩ = some (.bool (J k)) := fun W e => HBC.out W ((hx.trans hxk).trans e) k hb2
                have hend : (J k = false ∨ (z = false ∧ ¬ d < m)) ∨ (J k = true ∧ z = true) ∨ (J k = true ∧ z = false ∧ d < m) := by
                  cases J k <;> cases z <;> by_cases h : d < m <;> simp [h]
                rcases hend with hkp | ⟨hj, hz⟩ | ⟨hj, hz, hdm⟩
                · have HMN := Lib.hid (HMP.out (by rcases hkp with h | h; exact .inl h; exact .inr h))
                  clear HMT HMP
                  have hcase : J k = false ∨ (J k = true ∧ z = false ∧ ¬ d < m) := by
                    rcases hkp with h | ⟨h, h2⟩
                    · exact .inl h
                    · cases hj : J k
                      · exact .inl rfl
                      · exact .inr ⟨rfl, h, h2⟩
                  rcases hcase with hj | ⟨hj, hz, hdm⟩
                  · rw [hj] at ck
                    clear hkp hj
                    go_upto_region 15 with fail
                    refine wp_region_ext (by kernel_rfl) (by kernel_rfl) hr0 ?_
                    repeat (first | go_big_quiet_step (((go_at_call 105; exact Calls.later (HCL.out _)))) | quiet_step (((go_at_call 105; exact Calls.later (HCL.out _)))))
                    refine wpQuiet_nil ?_
                    rintro _ ⟨nq, rfl⟩
                    have hq2 := nq.ok
                    have ck2 := ck nq.val hq2
                    have HXn := Lib.hid (hxk.trans hq2)
                    go_wp2_with (fail)
                    go_roundw
                    case rel => exact ⟨k + 1, by omega, by omega, by go_num, by rw [HMN.out, ← HM.out], by rw [HMN.out, ← HZ.out], HXn.out⟩
                    case measure => simp [intOf]; omega
                  · rw [hj] at ck
                    subst hz
                    clear hkp hj
                    go_upto_region 15 with fail
                    refine wp_region_ext (by kernel_rfl) (by kernel_rfl) hr0 ?_
                    repeat (first | go_big_quiet_step (((go_at_call 105; exact Calls.later (HCL.out _)))) | quiet_step (((go_at_call 105; exact Calls.later (HCL.out _)))))
                    refine wpQuiet_nil ?_
                    rintro _ ⟨nq, rfl⟩
                    have hq2 := nq.ok
                    have ck2 := ck nq.val hq2
                    have HXn := Lib.hid (hxk.trans hq2)
                    go_wp2_with (fail)
                    go_roundw
                    case rel => exact ⟨k + 1, by omega, by omega, by go_num, by rw [HMN.out, ← HM.out], by rw [HMN.out, ← HZ.out], HXn.out⟩
                    case measure => simp [intOf]; omega
                · have HMN := Lib.hid (HMT.out hj (.inl hz))
                  rw [hj] at ck
                  subst hz
                  clear HMT HMP hj
                  go_upto_region 15 with fail
                  refine wp_region_ext (by kernel_rfl) (by kernel_rfl) hr0 ?_
                  repeat (first | go_big_quiet_step (((go_at_call 105; exact Calls.later (HCL.out _)))) | quiet_step (((go_at_call 105; exact Calls.later (HCL.out _)))))
                  refine wpQuiet_nil ?_
                  rintro _ ⟨nq, rfl⟩
                  have hq2 := nq.ok
                  have ck2 := ck nq.val hq2
                  have HXn := Lib.hid (hxk.trans hq2)
                  go_wp2_with (fail)
                  go_roundw
                  case rel => exact ⟨k + 1, by omega, by omega, by go_num, by rw [HMN.out]; rfl, by rw [HMN.out]; rfl, HXn.out⟩
                  case measure => simp [intOf]; omega
                · have HMN := Lib.hid (HMT.out hj (.inr hdm))
                  rw [hj] at ck
                  subst hz
                  clear HMT HMP hj
                  go_upto_region 15 with fail
                  refine wp_region_ext (by kernel_rfl) (by kernel_rfl) hr0 ?_
                  repeat (first | go_big_quiet_step (((go_at_call 105; exact Calls.later (HCL.out _)))) | quiet_step (((go_at_call 105; exact Calls.later (HCL.out _)))))
                  refine wpQuiet_nil ?_
                  rintro _ ⟨nq, rfl⟩
                  have hq2 := nq.ok
                  have ck2 := ck nq.val hq2
                  have HXn := Lib.hid (hxk.trans hq2)
                  go_wp2_with (fail)
                  go_roundw
                  case rel => exact ⟨k + 1, by omega, by omega, by go_num, by rw [HMN.out]; rfl, by rw [HMN.out]; rfl, HXn.out⟩
                  case measure => simp [intOf]; omega
              · have hends : (r = 0 ∧ k = 0) ∨ (0 < r ∧ k = n) := by omega
                have HCI : Hid ((minIn T J i k).getD 0 = C i) := by
                  rcases hends with ⟨h1, h2⟩ | ⟨h1, h2⟩
                  · rw [Hid, HJ0.out i (List.length_eq_zero_iff.1 (by rw [HVL.out]; exact h1)), h2]; rfl
                  · rw [Hid, HJM.out i (fun e => by have := HVL.out; rw [e] at this; simp at this; omega), h2]
                obtain ⟨m, hm⟩ : ∃ m, m = C i := ⟨_, rfl⟩
                have hjb := HJB.out i
                rw [HCI.out]
                rw [← hm] at HPT2 HPP2 hjb ⊢
                clear hm HCI hmb
                have hc2 : A < 0 ∨ (0 ≤ A ∧ m < O) ∨ (0 ≤ A ∧ O ≤ m) := by omega
                have HXn := Lib.hid (hx.trans hxk)
                rcases hends with ⟨h1, h2⟩ | ⟨h1, h2⟩
                · have hk1 : (k : Int) < (n : Int) := by omega
                  have hr1 : ¬ (0 : Int) < (r : Int) := by omega
                  clear h1 h2
                  rcases hc2 with hA0 | ⟨hA0, hmo⟩ | ⟨hA0, hmo⟩
                  · have HPN := Lib.hid (HPT2.out (.inl hA0))
                    clear HPT2 HPP2
                    go_wp2_with (fail)
                    go_roundw
                    case rel => exact ⟨i + 1, by omega, by go_num, by rw [HPN.out.1], by rw [HPN.out.2], HXn.out⟩
                    case measure => simp [intOf]; omega
                  · have HPN := Lib.hid (HPT2.out (.inr hmo))
                    clear HPT2 HPP2
                    go_wp2_with (fail)
                    go_roundw
                    case rel => exact ⟨i + 1, by omega, by go_num, by rw [HPN.out.1], by rw [HPN.out.2], HXn.out⟩
                    case measure => simp [intOf]; omega
                  · have HPN := Lib.hid (HPP2.out hA0 hmo)
                    clear HPT2 HPP2
                    go_wp2_with (fail)
                    go_roundw
                    case rel => exact ⟨i + 1, by omega, by go_num, by rw [HPN.out, ← HA.out], by rw [HPN.out, ← HOO.out], HXn.out⟩
                    case measure => simp [intOf]; omega
                · have hk1 : ¬ (k : Int) < (n : Int) := by omega
                  clear h1 h2
                  rcases hc2 with hA0 | ⟨hA0, hmo⟩ | ⟨hA0, hmo⟩
                  · have HPN := Lib.hid (HPT2.out (.inl hA0))
                    clear HPT2 HPP2
                    go_wp2_with (fail)
                    go_roundw
                    case rel => exact ⟨i + 1, by omega, by go_num, by rw [HPN.out.1], by rw [HPN.out.2], HXn.out⟩
                    case measure => simp [intOf]; omega
                  · have HPN := Lib.hid (HPT2.out (.inr hmo))
                    clear HPT2 HPP2
                    go_wp2_with (fail)
                    go_roundw
                    case rel => exact ⟨i + 1, by omega, by go_num, by rw [HPN.out.1], by rw [HPN.out.2], HXn.out⟩
                    case measure => simp [intOf]; omega
                  · have HPN := Lib.hid (HPP2.out hA0 hmo)
                    clear HPT2 HPP2
                    go_wp2_with (fail)
                    go_roundw
                    case rel => exact ⟨i + 1, by omega, by go_num, by rw [HPN.out, ← HA.out], by rw [HPN.out, ← HOO.out], HXn.out⟩
                    case measure => simp [intOf]; omega
          · rw [TI] at ci
            have HPN := Lib.hid (HPI.out TI)
            clear HPT HPP HPI TI
            go_wp2_with (fail)
            go_roundw
            case rel => exact ⟨i + 1, by omega, by go_num, by rw [HPN.out, ← HA.out], by rw [HPN.out, ← HOO.out], HXi.out⟩
            case measure => simp [intOf]; omega
        · obtain rfl : i = n := by omega
          rw [HAT.out]
          have hpb := HPB.out i
          obtain ⟨O, hO⟩ : ∃ O, O = coI (pickF C J i) := ⟨_, rfl⟩
          have HPR2 : Hid (primF T i (r + 1) = (V ++ [am], s + O)) := by rw [Hid, hO]; exact HPR.out
          rw [← hO] at hpb ⊢
          obtain ⟨-, -, ho0, ho1⟩ := hpb
          have hcell := HBC.out wr hx am ham
          have HOn := Lib.hid (OwnF.ext HO.out hx)
          have hof : wr.ownsRow g 4 1 (.slice (some ⟨g, 0, none⟩) i i) i (rowF bitC (BIT i (natI V))) := by
            have := HOn.out
            unfold OwnT OwnF at this
            rwa [BIT_len] at this
          have hfr : wr.frozen? ⟨g, am, none⟩ = false := hof.frozenAt am
          clear hof
          have ham0 : (0 : Int) ≤ (am : Int) := by omega
          have ham1 : (am : Int) < (i : Int) := by omega
          clear hO
          go_upto_region 21 with fail
          generalize hw7 : World.setCell wr _ _ = w7
          have HO7 : Hid (OwnT w7 g (.slice (some ⟨g, 0, none⟩) i i) (BIT i (natI (primF T i (r + 1)).1))) := by
            have hpl : am < (BIT i (natI V)).length := by rw [BIT_len]; exact ham
            have := OwnF.setCell1 bitC_len HOn.out am hpl 0 (by omega) (.bool true) true (by rw [BIT_at _ _ _ ham]; rfl)
            rw [Nat.mul_one, Nat.add_zero, BIT_set] at this
            rw [HPR2.out, ← hw7]
            have e : natI (V ++ [am]) = natI V ++ [(am : Int)] := by simp [natI]
            show OwnT _ _ _ (BIT i (natI (V ++ [am])))
            rw [e]
            exact this
          have HX7 : Hid (Ext w1 w7) := by rw [← hw7]; exact (HX.out.trans hx).set HG.out _
          have HS7 : Hid ((primF T i (r + 1)).2 = s + O) := by rw [HPR2.out]; exact rfl
          clear hw7 hcell hfr
          go_wp2_with (fail)
          go_roundw
          case rel => exact ⟨r + 1, by omega, by go_num, by rw [HS7.out], HX7.out, HO7.out⟩
          case measure => simp [intOf]; omega
    · obtain rfl : r = n := by omega
      go_wp2_with (fail)
      go_ret
      exact ⟨rfl, HE.out.trans HX.out⟩
end Go.Proofs.YtplbofhgmflnlaaGreat
