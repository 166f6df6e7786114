/-
  Walks: Cheapest.
-/
import Derived.Test.YtplbofhgmflnlaaGreatM8
import Derived.Test.YtplbofhgmflnlaaGreatM9a
set_option linter.unusedVariables false
set_option linter.unusedSimpArgs false
namespace Go.Proofs.YtplbofhgmflnlaaGreat
open Go.RowKit
/-! ### plain: the least cost of the rest -/
section
variable (T : Nat → Nat → Int) (n : Nat)
/-- The least cost to go on from a setting, of the next ones below k. -/
def bestTo (R : Nat → Nat → Int) (left frm : Nat) : Nat → Int
  | 0 => -1
  | k + 1 => if left.testBit k then
      (if bestTo R left frm k < 0 ∨ T frm k + R (left - 2 ^ k) k < bestTo R left frm k then T frm k + R (left - 2 ^ k) k else bestTo R left frm k)
    else bestTo R left frm k
/-- The least cost of the rest, by a set of those that are left and the one from which it goes on. -/
def rstN : Nat → Nat → Nat → Int
  | 0, _, _ => 0
  | f + 1, left, frm => if left.testBit frm ∨ left = 0 then 0 else bestTo T (rstN f) left frm n
def rstV (left frm : Nat) : Int := rstN T n (left + 1) left frm
end
theorem sub_lt' {x k : Nat} (h : x.testBit k = true) : x - 2 ^ k < x := by
  have h2 : 2 ^ k ≤ x := Nat.ge_two_pow_of_testBit h
  have : 0 < 2 ^ k := Nat.two_pow_pos k
  omega
theorem bestTo_congr (T : Nat → Nat → Int) {R R' : Nat → Nat → Int} {left frm : Nat} (h : ∀ l q, l < left → R l q = R' l q) : ∀ k, bestTo T R left frm k = bestTo T R' left frm k
  | 0 => rfl
  | k + 1 => by
    simp only [bestTo]
    rw [bestTo_congr T h k]
    by_cases e : left.testBit k = true
    · rw [if_pos e, if_pos e, h _ _ (sub_lt' e)]
    · rw [if_neg e, if_neg e]
theorem rstN_fuel (T : Nat → Nat → Int) (n : Nat) : ∀ (f f' left frm : Nat), left < f → left < f' → rstN T n f left frm = rstN T n f' left frm
  | 0, _, _, _, h, _ => by omega
  | _ + 1, 0, _, _, _, h => by omega
  | f + 1, f' + 1, left, frm, h, h' => by
    simp only [rstN]
    rw [bestTo_congr T (fun l q hl => rstN_fuel T n f f' l q (by omega) (by omega)) n]
theorem rstV_eq (T : Nat → Nat → Int) (n left frm : Nat) : rstV T n left frm = if left.testBit frm ∨ left = 0 then 0 else bestTo T (rstV T n) left frm n := by
  show (if left.testBit frm = true ∨ left = 0 then (0 : Int) else bestTo T (rstN T n left) left frm n) = _
  rw [bestTo_congr T (R := rstN T n left) (R' := rstV T n) (fun l q hl => rstN_fuel T n left (l + 1) l q hl (by omega)) n]
theorem bestTo_ge {T : Nat → Nat → Int} {n : Nat} {R : Nat → Nat → Int} {left frm : Nat} (hT : ∀ q, q < n → 0 ≤ T frm q) (hR : ∀ q, q < n → left.testBit q = true → 0 ≤ R (left - 2 ^ q) q) : ∀ k, k ≤ n → -1 ≤ bestTo T R left frm k ∧ ((∃ q, q < k ∧ left.testBit q = true) → 0 ≤ bestTo T R left frm k)
  | 0, _ => ⟨by simp [bestTo], fun ⟨q, hq, _⟩ => by omega⟩
  | k + 1, hk => by
    have ih := bestTo_ge hT hR k (by omega)
    have h1 := hT k (by omega)
    simp only [bestTo]
    by_cases e : left.testBit k = true
    · rw [if_pos e]
      have h2 := hR k (by omega) e
      split
      · constructor
        · omega
        · intro _; omega
      · constructor
        · omega
        · intro _; omega
    · rw [if_neg e]
      refine ⟨ih.1, fun ⟨q, hq, hb⟩ => ih.2 ⟨q, ?_, hb⟩⟩
      rcases Nat.lt_succ_iff_lt_or_eq.1 hq with h | h
      · exact h
      · rw [h] at hb; exact absurd hb e
theorem bestTo_le {T : Nat → Nat → Int} {n : Nat} {R : Nat → Nat → Int} {left frm : Nat} {M C : Int} (hT : ∀ q, q < n → T frm q ≤ C) (hR : ∀ q, q < n → left.testBit q = true → R (left - 2 ^ q) q ≤ M) (h0 : -1 ≤ C + M) : ∀ k, k ≤ n → bestTo T R left frm k ≤ C + M
  | 0, _ => by simpa [bestTo] using h0
  | k + 1, hk => by
    have ih := bestTo_le hT hR h0 k (by omega)
    have h1 := hT k (by omega)
    simp only [bestTo]
    by_cases e : left.testBit k = true
    · rw [if_pos e]
      have h2 := hR k (by omega) e
      split <;> omega
    · rw [if_neg e]; exact ih
theorem bit_of {n x : Nat} (h : x < 2 ^ n) (h0 : x ≠ 0) : ∃ q, q < n ∧ x.testBit q = true := by
  obtain ⟨q, hq⟩ := Nat.exists_testBit_of_ne_zero h0
  refine ⟨q, ?_, hq⟩
  rcases Nat.lt_or_ge q n with h1 | h1
  · exact h1
  · rw [Nat.testBit_lt_two_pow (Nat.lt_of_lt_of_le h (Nat.pow_le_pow_right (by omega) h1))] at hq; cases hq
theorem rstV_bd {T : Nat → Nat → Int} {n : Nat} {C : Int} (hC : 0 ≤ C) (hT : ∀ p q, p < n → q < n → 0 ≤ T p q ∧ T p q ≤ C) : ∀ (m left frm : Nat), left < m → left < 2 ^ n → frm < n → 0 ≤ rstV T n left frm ∧ rstV T n left frm ≤ C * left
  | 0, _, _, h, _, _ => by omega
  | m + 1, left, frm, hm, hl, hf => by
    rw [rstV_eq]
    by_cases h : left.testBit frm = true ∨ left = 0
    · rw [if_pos h]; exact ⟨Int.le_refl _, Int.mul_nonneg hC (by omega)⟩
    · rw [if_neg h]
      have h0 : left ≠ 0 := fun e => h (.inr e)
      have hR : ∀ q, q < n → left.testBit q = true → 0 ≤ rstV T n (left - 2 ^ q) q ∧ rstV T n (left - 2 ^ q) q ≤ C * ((left - 1 : Nat) : Int) := fun q hq hb => by
        have h1 := sub_lt' hb
        have h2 := rstV_bd hC hT m (left - 2 ^ q) q (by omega) (by omega) hq
        refine ⟨h2.1, Int.le_trans h2.2 (Int.mul_le_mul_of_nonneg_left (by omega) hC)⟩
      refine ⟨(bestTo_ge (fun q hq => (hT frm q hf hq).1) (fun q hq hb => (hR q hq hb).1) n (Nat.le_refl _)).2 (bit_of hl h0), ?_⟩
      have hm0 : 0 ≤ C * ((left - 1 : Nat) : Int) := Int.mul_nonneg hC (by omega)
      have := bestTo_le (M := C * ((left - 1 : Nat) : Int)) (C := C) (fun q hq => (hT frm q hf hq).2) (fun q hq hb => (hR q hq hb).2) (by omega) n (Nat.le_refl _)
      have e : C * (left : Int) = C + C * ((left - 1 : Nat) : Int) := by
        have : (left : Int) = 1 + ((left - 1 : Nat) : Int) := by omega
        rw [this, Int.mul_add, Int.mul_one]
      rw [e]; exact this
def rrow (V : Nat → Nat → Int) (n x k : Nat) : List Int := fl n fun q => if q < k then V x q else 0
theorem rrow_len (V : Nat → Nat → Int) (n x k : Nat) : (rrow V n x k).length = n := fl_len _ _
theorem rrow_zero (V : Nat → Nat → Int) (n x : Nat) : rrow V n x 0 = fl n fun _ => 0 := fl_congr _ _ _ fun i _ => if_neg (by omega)
theorem rrow_succ (V : Nat → Nat → Int) (n x k : Nat) (hk : k < n) : (rrow V n x k).set k (V x k) = rrow V n x (k + 1) := by
  refine ext_nth _ _ (by simp [rrow_len]) fun i hi => ?_
  rw [List.length_set, rrow_len] at hi
  rw [nth_set _ _ _ _ (by rw [rrow_len]; exact hi)]
  unfold rrow
  rw [nth_fl _ _ _ hi, nth_fl _ _ _ hi]
  by_cases e : i = k
  · subst e; rw [if_pos rfl, if_pos (by omega)]
  · rw [if_neg e]
    by_cases e2 : i < k
    · rw [if_pos e2, if_pos (by omega)]
    · rw [if_neg e2, if_neg (by omega)]
theorem rrow_nth (V : Nat → Nat → Int) (n x k q : Nat) (hq : q < n) : nth (rrow V n x k) q = if q < k then V x q else 0 := nth_fl _ _ _ hq
theorem rrow_skip (V : Nat → Nat → Int) (n x k : Nat) (h : V x k = 0) : rrow V n x (k + 1) = rrow V n x k := by
  refine fl_congr _ _ _ fun i hi => ?_
  by_cases e : i = k
  · subst e; rw [if_pos (by omega), if_neg (by omega), h]
  · by_cases e2 : i < k
    · rw [if_pos e2, if_pos (by omega)]
    · rw [if_neg e2, if_neg (by omega)]
/-- The rows below x are whole, the row x (if it is made) has its first k numbers. -/
def RestS (V : Nat → Nat → Int) (n N x k : Nat) (made : Bool) (vs : List (Sl Int)) : Prop :=
  vs.length = N ∧ ∀ p, p < N → (vth vs p).xs = if p < x then rrow V n p n else if p = x ∧ made = true then rrow V n x k else []
theorem RestS.skip {V : Nat → Nat → Int} {n N x k : Nat} {vs : List (Sl Int)} (h : RestS V n N x k true vs) (h0 : V x k = 0) : RestS V n N x (k + 1) true vs :=
  ⟨h.1, fun p hp => by rw [h.2 p hp, rrow_skip V n x k h0]⟩
theorem RestS.next {V : Nat → Nat → Int} {n N x : Nat} {vs : List (Sl Int)} (h : RestS V n N x n true vs) : RestS V n N (x + 1) 0 false vs := by
  refine ⟨h.1, fun p hp => ?_⟩
  rw [h.2 p hp]
  by_cases e : p < x
  · rw [if_pos e, if_pos (by omega)]
  · rw [if_neg e]
    by_cases e2 : p = x
    · subst e2; rw [if_pos ⟨rfl, rfl⟩, if_pos (by omega)]
    · rw [if_neg (fun h => e2 h.1), if_neg (by omega), if_neg (by simp)]
theorem RestS.put {V : Nat → Nat → Int} {n N x k : Nat} {vs : List (Sl Int)} (h : RestS V n N x k true vs) (hk : k < n) (hx : x < N) (s : Sl Int) (hs : s.xs = (vth vs x).xs.set k (V x k)) : RestS V n N x (k + 1) true (vs.set x s) := by
  refine ⟨by rw [List.length_set]; exact h.1, fun p hp => ?_⟩
  rw [vth_set _ _ _ _ (by rw [h.1]; exact hp)]
  by_cases e : p = x
  · subst e
    rw [if_pos rfl, if_neg (by omega), if_pos ⟨rfl, rfl⟩, hs, h.2 p hp, if_neg (by omega), if_pos ⟨rfl, rfl⟩, rrow_succ V n p k hk]
  · rw [if_neg e, h.2 p hp]
    by_cases e2 : p < x
    · rw [if_pos e2, if_pos e2]
    · rw [if_neg e2, if_neg e2, if_neg (fun h => e h.1), if_neg (fun h => e h.1)]
/-- A number of one row under the table is written. -/
theorem RowsAt.tab_write {w : World} {B r i k c : Nat} {v : Value} {vs : List (Sl Int)} {xs : List Int} (h : RowsAt w B (tabL v vs)) (hi : i < vs.length) (hx : vth vs i = ⟨some ⟨r, 0, none⟩, xs, c⟩) (z : Int) :
    RowsAt (w.setCell ⟨r, k, none⟩ (.int .i64 z)) B (tabL v (vs.set i ⟨some ⟨r, 0, none⟩, xs.set k z, c⟩)) := by
  have ho := h.tab_row i hi
  rw [hx] at ho
  have h1 := h.written (r' := rwS ⟨some ⟨r, 0, none⟩, xs.set k z, c⟩) (tabL_at v vs i hi) ((ExtX.refl r w).set k (.int .i64 z)) (by rw [hx]; rfl) (by rw [hx]; show Value.slice _ _ _ = Value.slice _ _ _; rw [List.length_set]) (by
    show OwnI _ B (.slice (some ⟨r, 0, none⟩) (xs.set k z).length c) (xs.set k z)
    rw [List.length_set]
    exact ownI_set2 rfl ho z)
  have e1 : (tabL v vs).set (i + 1) (rwS ⟨some ⟨r, 0, none⟩, xs.set k z, c⟩) = tabL v (vs.set i ⟨some ⟨r, 0, none⟩, xs.set k z, c⟩) := by
    unfold tabL
    rw [List.set_cons_succ, ← List.map_set]
    congr 1
    show (⟨31, 1, v, vs.length, rowF vecC vs⟩ : Rw) = ⟨31, 1, v, (vs.set i _).length, rowF vecC (vs.set i _)⟩
    rw [List.length_set, rowV_map, rowV_map, List.map_set]
    congr 1
    apply List.ext_getElem
    · simp
    · intro p hp1 hp2
      rw [List.getElem_set]
      split
      · rename_i e
        subst e
        rw [List.getElem_map, ← vth_eq _ _ hi, hx]
        show Value.slice _ _ _ = Value.slice _ _ _
        rw [List.length_set]
      · rfl
  rw [e1] at h1; exact h1
/-- Numbers as integers. -/
def natI (l : List Nat) : List Int := l.map fun q : Nat => (q : Int)
theorem natI_nil : natI [] = [] := rfl
theorem natI_cons (q : Nat) (l : List Nat) : natI (q :: l) = (q : Int) :: natI l := rfl
theorem natI_len (l : List Nat) : (natI l).length = l.length := by simp [natI]
/-- The first of the cheapest ones below i, and its cost. -/
def firstTo (c : Nat → Int) : Nat → Nat × Int
  | 0 => (0, c 0)
  | i + 1 => if c i < (firstTo c i).2 then (i, c i) else firstTo c i
theorem firstTo_bd {c : Nat → Int} {n : Nat} {M : Int} (hn : 1 ≤ n) (hc : ∀ i, i < n → 0 ≤ c i ∧ c i ≤ M) : ∀ i, i ≤ n → (firstTo c i).1 < n ∧ 0 ≤ (firstTo c i).2 ∧ (firstTo c i).2 ≤ M ∧ (firstTo c i).2 = c (firstTo c i).1
  | 0, _ => ⟨by simp only [firstTo]; omega, (hc 0 (by omega)).1, (hc 0 (by omega)).2, rfl⟩
  | i + 1, hi => by
    have ih := firstTo_bd hn hc i (by omega)
    have := hc i (by omega)
    simp only [firstTo]
    split
    · exact ⟨by simp only; omega, this.1, this.2, rfl⟩
    · exact ih
/-- Whether one goes on to q for the least cost. -/
def fitB (T V : Nat → Nat → Int) (left frm q : Nat) : Bool := left.testBit q && decide (T frm q + V (left - 2 ^ q) q = V left frm)
def wayF (T V : Nat → Nat → Int) (n : Nat) : Nat → Nat → Nat → List Nat
  | 0, _, _ => []
  | f + 1, left, frm => if left = 0 then [] else match fIdx (fitB T V left frm) n with
    | some q => q :: wayF T V n f (left - 2 ^ q) q
    | none => []
theorem wayF_zero (T V : Nat → Nat → Int) (n : Nat) : ∀ f frm, wayF T V n f 0 frm = []
  | 0, _ => rfl
  | f + 1, _ => by simp [wayF]
theorem wayF_step {T V : Nat → Nat → Int} {n f left frm q : Nat} (h0 : left ≠ 0) (hq : q < n) (h : fitB T V left frm q = true) (hf : ∀ j, j < q → fitB T V left frm j = false) : wayF T V n (f + 1) left frm = q :: wayF T V n f (left - 2 ^ q) q := by
  simp only [wayF]; rw [if_neg h0, fIdx_some hq h hf]
theorem bestTo_hit {T R : Nat → Nat → Int} {left frm : Nat} : ∀ k, 0 ≤ bestTo T R left frm k → ∃ q, q < k ∧ left.testBit q = true ∧ T frm q + R (left - 2 ^ q) q = bestTo T R left frm k
  | 0, h => by simp [bestTo] at h
  | k + 1, h => by
    simp only [bestTo] at h ⊢
    by_cases e : left.testBit k = true
    · rw [if_pos e] at h ⊢
      split
      · exact ⟨k, by omega, e, rfl⟩
      · rename_i h2
        rw [if_neg h2] at h
        obtain ⟨q, h3, h4, h5⟩ := bestTo_hit k h
        exact ⟨q, by omega, h4, h5⟩
    · rw [if_neg e] at h ⊢
      obtain ⟨q, h3, h4, h5⟩ := bestTo_hit k h
      exact ⟨q, by omega, h4, h5⟩
theorem fit_some {T : Nat → Nat → Int} {n left frm : Nat} {C : Int} (hC : 0 ≤ C) (hT : ∀ p q, p < n → q < n → 0 ≤ T p q ∧ T p q ≤ C) (hl : left < 2 ^ n) (h0 : left ≠ 0) (hf : frm < n) (hb : left.testBit frm = false) :
    ∃ q, q < n ∧ fitB T (rstV T n) left frm q = true := by
  have e := rstV_eq T n left frm
  rw [if_neg (by simp [hb, h0])] at e
  have hbd := rstV_bd hC hT (left + 1) left frm (by omega) hl hf
  rw [e] at hbd
  obtain ⟨q, h1, h2, h3⟩ := bestTo_hit n hbd.1
  refine ⟨q, h1, ?_⟩
  unfold fitB
  rw [h2, e, h3]; simp
/-- What Cheapest finds: the order and its cost. -/
def cheapF (T : Nat → Nat → Int) (n : Nat) : Nat × Int := firstTo (fun i => rstV T n (2 ^ n - 1 - 2 ^ i) i) n
def cheapW (T : Nat → Nat → Int) (n : Nat) : List Int := natI ((cheapF T n).1 :: wayF T (rstV T n) n (2 ^ n - 1 - 2 ^ (cheapF T n).1) (2 ^ n - 1 - 2 ^ (cheapF T n).1) (cheapF T n).1)
def costM (fs : List Fac) (ss : List Se) (p q : Nat) : Int := costS fs (eth ss p).lv.xs (eth ss q).lv.xs
def RetCheap (T : Nat → Nat → Int) (n : Nat) (w : World) (e : Ending) (w' : World) : Prop :=
  ∃ a c, e = .returned (.tuple #[.slice a (cheapW T n).length c, .int .i64 (cheapF T n).2, .int .i64 0]) ∧ Ext w w' ∧ OwnI w' w.heap.size (.slice a (cheapW T n).length c) (cheapW T n)
theorem own_addr {w : World} {B n c : Nat} {a : Option Addr} {xs : List Int} (h : OwnI w B (.slice a n c) xs) (hx : xs ≠ []) : ∃ r, a = some ⟨r, 0, none⟩ := by
  rcases h.2 with ⟨_, h2⟩ | ⟨g, cap, cur, hv, -⟩
  · exact absurd (List.length_eq_zero_iff.1 h2) hx
  · simp only [Value.slice.injEq] at hv
    exact ⟨g, hv.1⟩
set_option maxRecDepth 100000 in
set_option maxHeartbeats 4000000 in
theorem cheapest_ok (P : Pw) (a : Option Addr) (ss : List Se) (sc : Nat) (w : World) (hp : PlanAt w P) (hb : PlanB P) (hs : SetsAt w a ss) (hn0 : 1 ≤ ss.length) (hn9 : ss.length ≤ 9) (hl : ∀ i, i < ss.length → (eth ss i).lv.xs.length ≤ 9223372036854775807) (hv : checkE P ss = 0) :
    Calls Tryz.prog 18 #[planV P, .slice a ss.length sc] w (RetCheap (costM P.fs ss) ss.length w) := by
  obtain ⟨h1, h2, h3⟩ := checkE_ok hv
  have hck := fun W (e : Ext w W) => check_any P a ss sc W (hp.ext e) hb (hs.ext e) (by omega) hl
  have htb := fun W (e : Ext w W) => newTable_any P a ss sc W (hp.ext e) (planOk h1).1 (fun i hi => (anyFac_off (planOk h1).2.2.1 i hi).2.2) (hs.ext e) h2 (fun i hi => levB_len (setOk (h3 i hi)).1)
  have hcb := fun p q => costTo_bd (eth ss p).lv.xs (eth ss q).lv.xs (fun i hi => (anyFac_off (planOk h1).2.2.1 i hi).2.2) P.fs.length (Nat.le_refl _)
  have hf8 := (planOk h1).1
  rw [hv] at hck
  obtain ⟨fs, fa, fc, fo, ga, gc⟩ := P
  simp only at htb hcb hf8
  have HCK := Lib.hid hck; have HTB := Lib.hid htb
  clear hck htb hp hb hs hl hv h1 h2 h3
  obtain ⟨n, hn⟩ : ∃ n, n = ss.length := ⟨_, rfl⟩
  have HN := Lib.hid hn
  rw [← hn] at hn0 hn9 HCK HTB ⊢
  obtain ⟨N, hN⟩ : ∃ N, N = 2 ^ n := ⟨_, rfl⟩
  have hN512 : N ≤ 512 := by rw [hN]; exact Nat.pow_le_pow_right (by omega) hn9
  have hN2 : 2 ≤ N := by
    rw [hN]
    have := Nat.pow_le_pow_right (n := 2) (by omega) hn0
    simpa using this
  have HNN := Lib.hid hN
  clear hn hN
  go_enter Tryz.func18, Tryz.ntmps18
  go_upto_region 10 with fail
  generalize hw1 : World.alloc _ _ = w1
  obtain ⟨he, o1, hs1⟩ := alloc1 hw1
  obtain ⟨b0, b1⟩ := obj_cells2 o1
  clear hw1 o1
  have HE := Lib.hid he
  clear he
  (with_reducible refine (HCK.out _ HE.out).mono ?_); rintro e w2 ⟨rfl, he2⟩
  have hn9i : ¬ (9 < (n : Int)) := by omega
  have hn0i : ¬ ((n : Int) = 0) := by omega
  go_upto_region 10 with fail
  (with_reducible refine (HTB.out _ (HE.out.trans he2)).mono ?_); rintro e w3 ⟨gt, tc, tvs, rfl, he3, hrt, htl, htx⟩
  rw [← HN.out] at hrt htl htx ⊢
  have HRT := Lib.hid hrt; have HTX := Lib.hid htx
  have hE3 := Lib.hid (HE.out.trans (he2.trans he3))
  obtain ⟨T, hT⟩ : ∃ T : Nat → Nat → Int, T = costM fs ss := ⟨_, rfl⟩
  obtain ⟨V, hV⟩ : ∃ V, V = rstV T n := ⟨_, rfl⟩
  have HT := Lib.hid hT; have HV := Lib.hid hV
  have htbd : ∀ p q, 0 ≤ T p q ∧ T p q ≤ 8000 := fun p q => by
    rw [hT]
    have := hcb p q
    show 0 ≤ costTo fs _ _ fs.length ∧ costTo fs _ _ fs.length ≤ 8000
    omega
  have hvbd : ∀ left f, left < N → f < n → 0 ≤ V left f ∧ V left f ≤ 4096000 := fun left f h1 h2 => by
    rw [hV]
    have := rstV_bd (T := T) (n := n) (C := 8000) (by omega) (fun p q _ _ => htbd p q) (left + 1) left f (by omega) (by rw [← HNN.out]; exact h1) h2
    omega
  have HTBD := Lib.hid htbd; have HVBD := Lib.hid hvbd
  clear hT hV hcb hf8 htbd hvbd
  have hpw : (2 : Int) ^ n = (N : Int) := by rw [HNN.out]; push_cast; rfl
  have hmk := run_madeV 42 Tryz.underlying42 N (by omega)
  clear hrt htx he2 he3 HCK HTB b0 b1
  go_upto_region 12 with fail
  generalize hw4 : madeV w3 N = w4
  obtain ⟨he4, hrows, hsz⟩ := madeV_facts (by omega) hw4
  obtain ⟨g, hg⟩ : ∃ g, g = w3.heap.size := ⟨_, rfl⟩
  rw [← hg] at hrows hsz ⊢
  have HE4 := Lib.hid he4; have HR4 := Lib.hid hrows
  have HG : Hid (g = w3.heap.size ∧ w4.heap.size = g + 1) := ⟨hg, hsz⟩
  clear hw4 he4 hrows hsz hg hmk
  go_loopw [47] (fun i wr => ∃ (x : Nat) (vs : List (Sl Int)), x ≤ N ∧ i = .int .i64 x ∧ Ext w3 wr ∧ Hid (RowsAt wr g (tabL (.slice (some ⟨g, 0, none⟩) N N) vs) ∧ RestS V n N x 0 false vs)) (fun i _ => N - (intOf i).toNat)
  case atStart =>
    refine ⟨0, _, Nat.zero_le _, rfl, HE4.out, HR4.out, by simp, fun p hp => ?_⟩
    rw [vth_rep, if_neg (by omega), if_neg (by simp)]; rfl
  case round =>
    obtain ⟨x, vs0, hx, rfl, hr, hrw⟩ := hrel
    obtain ⟨wo, rfl⟩ : ∃ wo : World, wo = wr := ⟨_, rfl⟩
    by_cases hlt : x < N
    · have hmk := run_madeI n (by omega)
      have hvl : vs0.length = N := hrw.out.2.1
      have hx0 : (0 : Int) ≤ (x : Int) := by omega
      have hxN : (x : Int) < (N : Int) := by omega
      obtain ⟨gn, hgn⟩ : ∃ gn, gn = wo.heap.size := ⟨_, rfl⟩
      generalize hwm : madeI wo n = wm at *
      have hmk1 := hmk wo
      rw [hwm, ← hgn] at hmk1
      obtain ⟨hem, hom, hsm⟩ := madeI_facts (n := n) (by omega) hwm
      rw [← hgn] at hom
      have hro : RowsAt wm g ((tabL (.slice (some ⟨g, 0, none⟩) N N) vs0).set (x + 1) (rwS ⟨some ⟨gn, 0, none⟩, rrow V n x 0, n⟩)) := by
        refine hrw.out.1.put (tabL_at _ vs0 x (by omega)) ?_ (fun k hk _ => Below.block hem k hk) (fun k hk => ?_)
        · show OwnI wm g (.slice (some ⟨gn, 0, none⟩) (rrow V n x 0).length n) (rrow V n x 0)
          rw [rrow_len, rrow_zero]
          exact own_down hom (by have := (hrw.out.1.tab_own.lt g rfl).2; omega)
        · simp only [Value.ownBlock, Option.some.injEq] at hk
          right; omega
      have hov : OwnV wm g (.slice (some ⟨g, 0, none⟩) N N) vs0 := hrw.out.1.tab_own.ext hem
      have hcell := ownV_cell hvl hov x hlt
      have hfree := ownV_free hvl hov x
      have hst := hro.tab_store hvl hlt
      rw [show slV ⟨some ⟨gn, 0, none⟩, rrow V n x 0, n⟩ = .slice (some ⟨gn, 0, none⟩) n n by show Value.slice _ (rrow V n x 0).length n = _; rw [rrow_len]] at hst
      have HST : Hid (RowsAt (wm.setCell ⟨g, x, none⟩ (.slice (some ⟨gn, 0, none⟩) n n)) g (tabL (.slice (some ⟨g, 0, none⟩) N N) (vs0.set x ⟨some ⟨gn, 0, none⟩, rrow V n x 0, n⟩)) ∧ RestS V n N x 0 true (vs0.set x ⟨some ⟨gn, 0, none⟩, rrow V n x 0, n⟩)) := by
        refine ⟨hst, by rw [List.length_set]; exact hvl, fun p hp => ?_⟩
        rw [vth_set _ _ _ _ (by omega)]
        by_cases e : p = x
        · subst e; rw [if_pos rfl, if_neg (by omega), if_pos ⟨rfl, rfl⟩]
        · rw [if_neg e, hrw.out.2.2 p hp]
          by_cases e2 : p < x
          · rw [if_pos e2, if_pos e2]
          · rw [if_neg e2, if_neg e2, if_neg (by simp), if_neg (fun h => e h.1)]
      have HEX : Hid (Ext w3 (wm.setCell ⟨g, x, none⟩ (.slice (some ⟨gn, 0, none⟩) n n))) := (hr.trans hem).set (by have := HG.out.1; simp; omega) _
      clear hro hov hst hmk hom hsm hwm hrw hem hr
      generalize hvs1 : vs0.set x _ = vs1 at HST
      clear hvs1 hgn
      go_upto_region 15 with fail
      generalize World.setCell wm _ _ = w5 at *
      clear hcell hfree hmk1
      go_upto_region 16 with fail
      go_loopw [56] (fun i wr => ∃ (k : Nat) (vs : List (Sl Int)), k ≤ n ∧ i = .int .i64 k ∧ Ext w3 wr ∧ Hid (RowsAt wr g (tabL (.slice (some ⟨g, 0, none⟩) N N) vs) ∧ RestS V n N x k true vs)) (fun i _ => n - (intOf i).toNat)
      case atStart => exact ⟨0, _, Nat.zero_le _, rfl, HEX.out, HST.out⟩
      case round =>
        clear HEX HST
        obtain ⟨k, vs, hk, rfl, hr, hrw⟩ := hrel
        obtain ⟨wo, rfl⟩ : ∃ wo : World, wo = wr := ⟨_, rfl⟩
        by_cases hlt2 : k < n
        · have hx9 : x < 512 := by omega
          have HVZ : Hid ((x.testBit k = true ∨ x = 0) → V x k = 0) := fun h => by
            have := HV.out; subst this
            rw [rstV_eq, if_pos h]
          have HVN : Hid (¬ (x.testBit k = true ∨ x = 0) → V x k = bestTo T V x k n) := fun h => by
            have := HV.out; subst this
            rw [rstV_eq, if_neg h]
          have hsa := shr_and x hx9 k (by omega)
          cases TB : x.testBit k
          · rw [TB] at hsa HVN HVZ
            simp only [Bool.false_eq_true, if_false] at hsa
            by_cases hx00 : x = 0
            · have HSK := Lib.hid (hrw.out.2.skip (HVZ.out (.inr hx00)))
              have hxx : ((x : Int) == 0) = true := by rw [beq_iff_eq]; omega
              have hrw1 := Lib.hid hrw.out.1
              clear hrw HVN HVZ hx00
              go_wp2_with (fail)
              go_roundw
              case rel => exact ⟨k + 1, vs, by omega, by go_num, hr, hrw1.out, HSK.out⟩
              case measure => simp [intOf]; omega
            · have hxx : ((x : Int) == 0) = false := by rw [beq_eq_false_iff_ne]; omega
              have HVE := Lib.hid (HVN.out (by simp [hx00]))
              clear HVN HVZ hx00
              go_upto_region 21 with fail
              go_loopw [13, 69] (fun b i wr => ∃ q : Nat, q ≤ n ∧ i = .int .i64 q ∧ b = .int .i64 (bestTo T V x k q) ∧ Ext wo wr) (fun _ i _ => n - (intOf i).toNat)
              case atStart => exact ⟨0, Nat.zero_le _, rfl, rfl, Ext.refl _⟩
              case round =>
                obtain ⟨q, hq, rfl, rfl, hrq⟩ := hrel
                obtain ⟨wi, rfl⟩ : ∃ wi : World, wi = wr := ⟨_, rfl⟩
                by_cases hlt3 : q < n
                · have hsq := shr_and x hx9 q (by omega)
                  obtain ⟨z, hz⟩ : ∃ z, z = bestTo T V x k q := ⟨_, rfl⟩
                  have hzb : -1 ≤ z ∧ z ≤ 4104000 := by
                    rw [hz]
                    refine ⟨(bestTo_ge (n := n) (fun q _ => (HTBD.out k q).1) (fun q hq hb => (HVBD.out _ q (by have := sub_lt' hb; omega) hq).1) q (by omega)).1, ?_⟩
                    have := bestTo_le (n := n) (C := 8000) (M := 4096000) (R := V) (left := x) (frm := k) (fun q _ => (HTBD.out k q).2) (fun q hq hb => (HVBD.out _ q (by have := sub_lt' hb; omega) hq).2) (by omega) q (by omega)
                    omega
                  have HZ := Lib.hid hz
                  rw [← hz]
                  clear hz
                  cases TQ : x.testBit q
                  · rw [TQ] at hsq
                    simp only [Bool.false_eq_true, if_false] at hsq
                    have HNX : Hid (bestTo T V x k (q + 1) = z) := by rw [Hid, HZ.out]; simp [bestTo, TQ]
                    go_wp2_with (fail)
                    go_roundw
                    case rel => exact ⟨q + 1, by omega, by go_num, by rw [HNX.out], hrq⟩
                    case measure => simp [intOf]; omega
                  · rw [TQ] at hsq
                    simp only [if_true] at hsq
                    obtain ⟨Q, hQ⟩ : ∃ Q, Q = 2 ^ q := ⟨_, rfl⟩
                    have hQx : Q ≤ x := by rw [hQ]; exact Nat.ge_two_pow_of_testBit TQ
                    have hQ1 : 1 ≤ Q := by rw [hQ]; exact Nat.two_pow_pos q
                    have hpq : (2 : Int) ^ q = (Q : Int) := by rw [hQ]; push_cast; rfl
                    rw [hpq] at hsq
                    have han := andNot_bit x hx9 q (by omega) TQ
                    rw [← hQ] at han
                    obtain ⟨p, hp⟩ : ∃ p, p = x - Q := ⟨_, rfl⟩
                    rw [← hp] at han
                    have hpN : p < N := by omega
                    have hpx : p < x := by omega
                    have HP2 : Hid (p = x - 2 ^ q) := by rw [Hid, hp, hQ]
                    clear hp hQ
                    -- the tables
                    have hE3i := hr.trans hrq
                    have t1 := fun W (e : Ext wi W) => ownV_cell htl ((HRT.out.tab_own).ext (hE3i.trans e)) k (by omega)
                    have t2 := HRT.out.tab_row k (by omega)
                    have hxl : (vth tvs k).xs.length = n := by rw [HTX.out k hlt2, crow_len]
                    obtain ⟨tb, hta⟩ := own_addr t2 (fun e => by rw [e] at hxl; simp at hxl; omega)
                    have t3 : ∀ W, Ext wi W → W.cell? ⟨tb, q, none⟩ = some (.int .i64 (T k q)) := fun W e => by
                      have h1 : OwnI w3 w2.heap.size (.slice (some ⟨tb, 0, none⟩) n (vth tvs k).c) (vth tvs k).xs := by rw [← hta, ← hxl]; exact t2
                      rw [ownI_cell hxl (h1.ext (hE3i.trans e)) q hlt3, HTX.out k hlt2, HT.out, HN.out]
                      congr 2
                      unfold crow
                      rw [nth_eq _ _ (by simp; rw [← HN.out]; exact hlt3)]
                      simp [costM]
                    have r1 := fun W (e : Ext wi W) => ownV_cell hrw.out.2.1 (hrw.out.1.tab_own.ext (hrq.trans e)) p hpN
                    have r2 := hrw.out.1.tab_row p (by rw [hrw.out.2.1]; exact hpN)
                    have hrx : (vth vs p).xs = rrow V n p n := by rw [hrw.out.2.2 p hpN, if_pos hpx]
                    have hrl : (vth vs p).xs.length = n := by rw [hrx, rrow_len]
                    obtain ⟨rb, hra⟩ := own_addr r2 (fun e => by rw [e] at hrl; simp at hrl; omega)
                    have r3 : ∀ W, Ext wi W → W.cell? ⟨rb, q, none⟩ = some (.int .i64 (V p q)) := fun W e => by
                      have h1 : OwnI wo g (.slice (some ⟨rb, 0, none⟩) n (vth vs p).c) (vth vs p).xs := by rw [← hra, ← hrl]; exact r2
                      rw [ownI_cell hrl (h1.ext (hrq.trans e)) q hlt3, hrx, rrow_nth _ _ _ _ _ hlt3, if_pos hlt3]
                    simp only [slV] at t1 r1
                    rw [hta, hxl] at t1
                    rw [hra, hrl] at r1
                    have hq0 : (0 : Int) ≤ (q : Int) := by omega
                    have hqn : (q : Int) < (n : Int) := by omega
                    have hk0 : (0 : Int) ≤ (k : Int) := by omega
                    have hkn : (k : Int) < (n : Int) := by omega
                    have hp0 : (0 : Int) ≤ (p : Int) := by omega
                    have hpNi : (p : Int) < (N : Int) := by omega
                    obtain ⟨tv, htv⟩ : ∃ tv, tv = T k q := ⟨_, rfl⟩
                    obtain ⟨rv, hrv⟩ : ∃ rv, rv = V p q := ⟨_, rfl⟩
                    have htb2 := HTBD.out k q
                    have hrb2 := HVBD.out p q hpN hlt3
                    rw [← htv] at t3 htb2; rw [← hrv] at r3 hrb2
                    have HNX : Hid (bestTo T V x k (q + 1) = if z < 0 ∨ tv + rv < z then tv + rv else z) := by
                      rw [Hid, HZ.out, htv, hrv, HP2.out]; simp [bestTo, TQ]
                    clear htv hrv t2 r2 hrx hta hra hxl hrl
                    have hr0 := Ext.refl wi
                    go_upto_region 24 with fail
                    refine wp_region_ext (by kernel_rfl) (by kernel_rfl) hr0 ?_
                    repeat (first | go_big_quiet_step (((fail))) | quiet_step (((fail))))
                    refine wpQuiet_nil ?_
                    rintro _ ⟨nq, rfl⟩
                    have hqq := nq.ok
                    have hrqq := hrq.trans hqq
                    clear t1 t3 r1 r3 hr0
                    cases T1 : decide (z < 0)
                    · cases T2 : decide (tv + rv < z)
                      · have HN2 := Lib.hid (show bestTo T V x k (q + 1) = z by rw [HNX.out, if_neg (by simp at T1 T2; omega)])
                        clear HNX
                        go_wp2_with (fail)
                        go_roundw
                        case rel => exact ⟨q + 1, by omega, by go_num, by rw [HN2.out], hrqq⟩
                        case measure => simp [intOf]; omega
                      · have HN2 := Lib.hid (show bestTo T V x k (q + 1) = tv + rv by rw [HNX.out, if_pos (by simp at T2; omega)])
                        clear HNX
                        go_wp2_with (fail)
                        go_roundw
                        case rel => exact ⟨q + 1, by omega, by go_num, by rw [HN2.out], hrqq⟩
                        case measure => simp [intOf]; omega
                    · have HN2 := Lib.hid (show bestTo T V x k (q + 1) = tv + rv by rw [HNX.out, if_pos (by simp at T1; omega)])
                      clear HNX
                      go_wp2_with (fail)
                      go_roundw
                      case rel => exact ⟨q + 1, by omega, by go_num, by rw [HN2.out], hrqq⟩
                      case measure => simp [intOf]; omega
                · obtain rfl : q = n := by omega
                  have HVE2 := Lib.hid HVE.out.symm
                  rw [HVE2.out]
                  have hrl : (vth vs x).xs.length = q := by rw [hrw.out.2.2 x hlt, if_neg (by omega), if_pos ⟨rfl, rfl⟩, rrow_len]
                  have r2 := (hrw.out.1.tab_row x (by rw [hrw.out.2.1]; exact hlt)).ext hrq
                  obtain ⟨rb, hra⟩ := own_addr r2 (fun e => by rw [e] at hrl; simp at hrl; omega)
                  have HRW := Lib.hid (hrw.out.1.ext hrq)
                  have r1 := ownV_cell hrw.out.2.1 HRW.out.tab_own x hlt
                  simp only [slV] at r1
                  rw [hra, hrl] at r1
                  have r3 : OwnI wi g (.slice (some ⟨rb, 0, none⟩) q (vth vs x).c) (vth vs x).xs := by rw [← hra, ← hrl]; exact r2
                  have r4 := ownI_cell hrl r3 k hlt2
                  have r5 := ownI_free hrl r3 k
                  have hk0 : (0 : Int) ≤ (k : Int) := by omega
                  have hkn : (k : Int) < (q : Int) := by omega
                  have hE4 := hr.trans hrq
                  have HX4 : Hid (Ext w3 (wi.setCell ⟨rb, k, none⟩ (.int .i64 (V x k)))) := hE4.set (by have := (own_lt r3).1; have := HG.out.1; simp; omega) _
                  have hvx : vth vs x = ⟨some ⟨rb, 0, none⟩, (vth vs x).xs, (vth vs x).c⟩ := by rw [← hra]
                  have HW4 := Lib.hid (HRW.out.tab_write (k := k) (by rw [hrw.out.2.1]; exact hlt) hvx (V x k))
                  have HS4 := Lib.hid (hrw.out.2.put hlt2 hlt ⟨some ⟨rb, 0, none⟩, (vth vs x).xs.set k (V x k), (vth vs x).c⟩ rfl)
                  obtain ⟨yy, hyy⟩ : ∃ y, y = V x k := ⟨_, rfl⟩
                  rw [← hyy] at HX4 HW4 HS4 ⊢
                  clear r2 r3 hra hvx hyy hE4 HVE2 HVE
                  go_wp2_with (fail)
                  go_roundw
                  case rel => exact ⟨k + 1, _, by omega, by go_num, HX4.out, HW4.out, HS4.out⟩
                  case measure => simp [intOf]; omega
          · rw [TB] at hsa HVZ
            have HSK := Lib.hid (hrw.out.2.skip (HVZ.out (.inl rfl)))
            have hrw1 := Lib.hid hrw.out.1
            simp only [if_true] at hsa
            clear hrw HVN HVZ
            go_wp2_with (fail)
            go_roundw
            case rel => exact ⟨k + 1, vs, by omega, by go_num, hr, hrw1.out, HSK.out⟩
            case measure => simp [intOf]; omega
        · obtain rfl : k = n := by omega
          have HSN := Lib.hid hrw.out.2.next
          have hrw1 := Lib.hid hrw.out.1
          clear hrw
          go_wp2_with (fail)
          go_roundw
          case rel => exact ⟨x + 1, vs, by omega, by go_num, hr, hrw1.out, HSN.out⟩
          case measure => simp [intOf]; omega
    · obtain rfl : x = N := by omega
      have HRST : Hid (∀ p, p < x → ∃ rb c, (∀ W, Ext wo W → W.cell? ⟨g, p, none⟩ = some (.slice (some ⟨rb, 0, none⟩) n c)) ∧ ∀ q, q < n → ∀ W, Ext wo W → W.cell? ⟨rb, q, none⟩ = some (.int .i64 (V p q))) := fun p hp => by
        have hrx : (vth vs0 p).xs = rrow V n p n := by rw [hrw.out.2.2 p hp, if_pos hp]
        have hrl : (vth vs0 p).xs.length = n := by rw [hrx, rrow_len]
        have r2 := hrw.out.1.tab_row p (by rw [hrw.out.2.1]; exact hp)
        obtain ⟨rb, hra⟩ := own_addr r2 (fun e => by rw [e] at hrl; simp at hrl; omega)
        refine ⟨rb, (vth vs0 p).c, fun W e => ?_, fun q hq W e => ?_⟩
        · have := ownV_cell hrw.out.2.1 (hrw.out.1.tab_own.ext e) p hp
          simp only [slV] at this
          rw [hra, hrl] at this; exact this
        · have h1 : OwnI wo g (.slice (some ⟨rb, 0, none⟩) n (vth vs0 p).c) (vth vs0 p).xs := by rw [← hra, ← hrl]; exact r2
          rw [ownI_cell hrl (h1.ext e) q hq, hrx, rrow_nth _ _ _ _ _ hq, if_pos hq]
      have HTAB : Hid (∀ p, p < n → ∃ tb c, (∀ W, Ext wo W → W.cell? ⟨gt, p, none⟩ = some (.slice (some ⟨tb, 0, none⟩) n c)) ∧ ∀ q, q < n → ∀ W, Ext wo W → W.cell? ⟨tb, q, none⟩ = some (.int .i64 (T p q))) := fun p hp => by
        have hxl : (vth tvs p).xs.length = n := by rw [HTX.out p hp, crow_len]
        have t2 := HRT.out.tab_row p (by omega)
        obtain ⟨tb, hta⟩ := own_addr t2 (fun e => by rw [e] at hxl; simp at hxl; omega)
        refine ⟨tb, (vth tvs p).c, fun W e => ?_, fun q hq W e => ?_⟩
        · have := ownV_cell htl ((HRT.out.tab_own).ext (hr.trans e)) p (by omega)
          simp only [slV] at this
          rw [hta, hxl] at this; exact this
        · have h1 : OwnI w3 w2.heap.size (.slice (some ⟨tb, 0, none⟩) n (vth tvs p).c) (vth tvs p).xs := by rw [← hta, ← hxl]; exact t2
          rw [ownI_cell hxl (h1.ext (hr.trans e)) q hq, HTX.out p hp, HT.out, HN.out]
          congr 2
          unfold crow
          rw [nth_eq _ _ (by simp; rw [← HN.out]; exact hq)]
          simp [costM]
      have HEO : Hid (Ext w wo) := hE3.out.trans hr
      clear hrw HR4 HE4 HG hn9i hn0i hE3 HTX htl HRT hs1 HE hlt hr
      obtain ⟨A, hA⟩ : ∃ A, A = x - 1 := ⟨_, rfl⟩
      have hAx : (x : Int) - 1 = (A : Int) := by omega
      have hA512 : A < 512 := by omega
      have HAB : Hid (∀ i, i < n → A.testBit i = true) := fun i hi => by
        rw [hA, HNN.out, Nat.testBit_two_pow_sub_one]; simp [hi]
      have HA2 : Hid (A + 1 = 2 ^ n) := by rw [Hid, hA, ← HNN.out]; omega
      clear hA
      -- the first one
      have hb0 := HAB.out 0 (by omega)
      have hA1 : 1 ≤ A := by omega
      have han0 : bits .andNot .i64 (A : Int) 1 = ((A - 1 : Nat) : Int) := by
        have := andNot_bit A hA512 0 (by omega) hb0
        simpa using this
      obtain ⟨A0, hA0⟩ : ∃ A0, A0 = A - 1 := ⟨_, rfl⟩
      rw [← hA0] at han0
      have hA0x : A0 < x := by omega
      obtain ⟨rb, rc, q1, q2⟩ := HRST.out A0 hA0x
      have q3 := q2 0 (by omega)
      obtain ⟨v0, hv0⟩ : ∃ v0, v0 = V A0 0 := ⟨_, rfl⟩
      have HV0 : Hid (v0 = V (A - 2 ^ 0) 0) := by rw [Hid, hv0, hA0]
      rw [← hv0] at q3
      have hA0i : (A0 : Int) < (x : Int) := by omega
      have hA00 : (0 : Int) ≤ (A0 : Int) := by omega
      clear hv0 hb0 hA0 q2
      have hr0 := Ext.refl wo
      go_upto_region 32 with fail
      refine wp_region_ext (by kernel_rfl) (by kernel_rfl) hr0 ?_
      repeat (first | go_big_quiet_step (((fail))) | quiet_step (((fail))))
      refine wpQuiet_nil ?_
      rintro _ ⟨nq, rfl⟩
      have HQ1 := Lib.hid nq.ok
      clear q1 q3 han0 hr0
      go_upto_region 34 with fail
      obtain ⟨cF, hcF⟩ : ∃ cF : Nat → Int, cF = fun i => V (A - 2 ^ i) i := ⟨_, rfl⟩
      have HCF := Lib.hid hcF
      clear hcF
      have HFB : Hid (∀ i, i ≤ n → (firstTo cF i).1 < n ∧ 0 ≤ (firstTo cF i).2 ∧ (firstTo cF i).2 ≤ 4096000 ∧ (firstTo cF i).2 = cF (firstTo cF i).1) := firstTo_bd hn0 fun i hi => by
        rw [HCF.out]
        exact HVBD.out (A - 2 ^ i) i (Nat.lt_of_le_of_lt (Nat.sub_le _ _) (by omega)) hi
      go_loopw [17, 18, 124] (fun f t i wr => ∃ k : Nat, k ≤ n ∧ i = .int .i64 k ∧ f = .int .i64 ((firstTo cF k).1 : Nat) ∧ t = .int .i64 (firstTo cF k).2 ∧ Ext wo wr) (fun _ _ i _ => n - (intOf i).toNat)
      case atStart => exact ⟨0, Nat.zero_le _, rfl, rfl, by rw [HV0.out, show (firstTo cF 0).2 = cF 0 from rfl, HCF.out], HQ1.out⟩
      case round =>
        obtain ⟨k, hk, rfl, rfl, rfl, hr⟩ := hrel
        by_cases hlt : k < n
        · have hfb := HFB.out k hk
          obtain ⟨f, hf⟩ : ∃ f, f = (firstTo cF k).1 := ⟨_, rfl⟩
          obtain ⟨t, ht⟩ : ∃ t, t = (firstTo cF k).2 := ⟨_, rfl⟩
          rw [← hf, ← ht] at hfb ⊢
          have hf0 := hfb.1
          have ht0 := hfb.2.1
          have ht1 := hfb.2.2.1
          have hbk := HAB.out k hlt
          obtain ⟨Q, hQ⟩ : ∃ Q, Q = 2 ^ k := ⟨_, rfl⟩
          have hQx : Q ≤ A := by rw [hQ]; exact Nat.ge_two_pow_of_testBit hbk
          have hpq : (2 : Int) ^ k = (Q : Int) := by rw [hQ]; push_cast; rfl
          have han := andNot_bit A hA512 k (by omega) hbk
          rw [← hQ] at han
          obtain ⟨p, hp⟩ : ∃ p, p = A - Q := ⟨_, rfl⟩
          rw [← hp] at han
          have hpx : p < x := by omega
          obtain ⟨rb, rc, q1, q2⟩ := HRST.out p hpx
          have q3 := q2 k hlt
          obtain ⟨v, hv⟩ : ∃ v, v = V p k := ⟨_, rfl⟩
          rw [← hv] at q3
          have HNX : Hid (firstTo cF (k + 1) = if v < t then (k, v) else (f, t)) := by
            have e1 : cF k = v := by rw [HCF.out, hv, hp, hQ]
            show (if cF k < (firstTo cF k).2 then (k, cF k) else firstTo cF k) = _
            rw [e1, hf, ht]
          have hpi : (p : Int) < (x : Int) := by omega
          have hp0 : (0 : Int) ≤ (p : Int) := by omega
          have hk0 : (0 : Int) ≤ (k : Int) := by omega
          have hkn : (k : Int) < (n : Int) := by omega
          have q1' := q1 wr hr
          have q3' := q3 wr hr
          clear hv hp hQ hbk hf ht hfb q1 q2 q3
          cases T1 : decide (v < t)
          · have HN2 := Lib.hid (show firstTo cF (k + 1) = (f, t) by rw [HNX.out, if_neg (by simpa using T1)])
            clear HNX
            go_wp2_with (fail)
            go_roundw
            case rel => exact ⟨k + 1, by omega, by go_num, by rw [HN2.out], by rw [HN2.out], hr⟩
            case measure => simp [intOf]; omega
          · have HN2 := Lib.hid (show firstTo cF (k + 1) = (k, v) by rw [HNX.out, if_pos (by simpa using T1)])
            clear HNX
            go_wp2_with (fail)
            go_roundw
            case rel => exact ⟨k + 1, by omega, by go_num, by rw [HN2.out], by rw [HN2.out], hr⟩
            case measure => simp [intOf]; omega
        · obtain rfl : k = n := by omega
          have hfb := HFB.out k (Nat.le_refl _)
          obtain ⟨f, hf⟩ : ∃ f, f = (firstTo cF k).1 := ⟨_, rfl⟩
          obtain ⟨t, ht⟩ : ∃ t, t = (firstTo cF k).2 := ⟨_, rfl⟩
          rw [← hf, ← ht] at hfb ⊢
          have hf0 := hfb.1
          have hbk := HAB.out f hf0
          obtain ⟨Q, hQ⟩ : ∃ Q, Q = 2 ^ f := ⟨_, rfl⟩
          have hQx : Q ≤ A := by rw [hQ]; exact Nat.ge_two_pow_of_testBit hbk
          have hQ1 : 1 ≤ Q := by rw [hQ]; exact Nat.two_pow_pos f
          have hpq : (2 : Int) ^ f = (Q : Int) := by rw [hQ]; push_cast; rfl
          have han := andNot_bit A hA512 f (by omega) hbk
          rw [← hQ] at han
          obtain ⟨p, hp⟩ : ∃ p, p = A - Q := ⟨_, rfl⟩
          rw [← hp] at han
          have hpx : p < x := by omega
          have HPB : Hid (p.testBit f = false) := by
            rw [Hid, hp, hQ]; exact sub_bit A hA512 f (by omega) hbk
          have HP := Lib.hid (show p = A - 2 ^ f by rw [hp, hQ])
          have HF := Lib.hid hf; have HTT := Lib.hid ht
          have HRR := Lib.hid hr
          clear hp hQ hbk hf ht hfb HFB
          go_upto_region 42 with fail
          generalize hw9 : World.alloc wr _ = w9
          obtain ⟨he9, o9, hs9⟩ := alloc1 hw9
          obtain ⟨Bw, hBw⟩ : ∃ Bw, Bw = wr.heap.size := ⟨_, rfl⟩
          rw [← hBw] at o9 ⊢
          have HW9 : Hid (Ext wo w9 ∧ OwnI w9 Bw (.slice (some ⟨Bw, 0, none⟩) 1 1) [(f : Int)] ∧ w.heap.size ≤ Bw ∧ wo.heap.size ≤ Bw) := by
            refine ⟨hr.trans he9, ?_, ?_, ?_⟩
            · exact ownI_blk (xs := [(f : Int)]) o9 (Nat.le_refl _) (by simp)
            · have := HEO.out.size; have := hr.size; omega
            · have := hr.size; omega
          clear hw9 he9 o9 hs9 hBw hr hpq han
          go_loopw [21, 22] (fun v l wr => ∃ (left fu frm : Nat) (ys : List Int) (vv : Value), l = .int .i64 left ∧ v = vv ∧ Hid (left < x ∧ left ≤ fu ∧ frm < k ∧ ys ≠ [] ∧ nth ys (ys.length - 1) = frm ∧ left.testBit frm = false ∧ ys.length + left ≤ 600 ∧ ys ++ natI (wayF T V k fu left frm) = (f : Int) :: natI (wayF T V k p p f)) ∧ Ext wo wr ∧ Hid (OwnI wr Bw vv ys)) (fun _ l _ => (intOf l).toNat)
          case atStart => exact ⟨p, p, f, [(f : Int)], _, rfl, rfl, ⟨hpx, Nat.le_refl _, hf0, by simp, rfl, HPB.out, by simp; omega, rfl⟩, HW9.out.1, HW9.out.2.1⟩
          case round =>
            obtain ⟨left, fu, frm, ys, vv, rfl, rfl, hh, hr, hown⟩ := hrel
            obtain ⟨wi, rfl⟩ : ∃ wi : World, wi = wr := ⟨_, rfl⟩
            by_cases h0 : left = 0
            · obtain rfl := h0
              have hwy : ys = cheapW T k := by
                have h1 := hh.out.2.2.2.2.2.2.2
                rw [wayF_zero, natI_nil, List.append_nil, ← natI_cons] at h1
                have h2 : f = (cheapF T k).1 := by rw [HF.out, HCF.out, HV.out]; unfold cheapF; rw [← HA2.out]; rfl
                rw [h1, HP.out, HV.out]; unfold cheapW; rw [← h2, ← HA2.out]; rfl
              have htt : t = (cheapF T k).2 := by rw [HTT.out, HCF.out, HV.out]; unfold cheapF; rw [← HA2.out]; rfl
              have HWY := Lib.hid hwy; have HT2 := Lib.hid htt
              obtain ⟨a', n', c', rfl⟩ := own_slice hown.out
              obtain ⟨-, hn', -⟩ := hown.out.ints
              have HN' := Lib.hid hn'
              clear hwy htt hn'
              go_wp2_with (fail)
              go_ret3
              refine ⟨a', c', ?_, HEO.out.trans hr, ?_⟩
              · have := HT.out
                subst this
                rw [← HWY.out, ← HT2.out, ← HN'.out]; rfl
              · have := HT.out
                subst this
                rw [← HWY.out, ← HN'.out]; exact own_down hown.out (by have := HW9.out.2.2.1; exact this)
            · obtain ⟨hlx, hlf, hfk, hyn, hyl, hlb, hy6, hway⟩ := hh.out
              have HWAY := Lib.hid hway; have HYN := Lib.hid hyn; have HYL := Lib.hid hyl
              clear hway hyn hyl hh
              obtain ⟨a', n', c', rfl⟩ := own_slice hown.out
              obtain ⟨-, hn', -⟩ := hown.out.ints
              subst hn'
              obtain ⟨wb, rfl⟩ := own_addr hown.out HYN.out
              obtain ⟨m, hm⟩ : ∃ m, ys.length = m + 1 := ⟨ys.length - 1, by have := HYN.out; have : ys.length ≠ 0 := fun e => this (List.length_eq_zero_iff.1 e); omega⟩
              have HM := Lib.hid hm
              rw [hm] at hown ⊢
              have HOW := hown
              have c1 : ∀ W, Ext wi W → W.cell? ⟨wb, m, none⟩ = some (.int .i64 (frm : Int)) := fun W e => by
                have h1 := ownI_cell hm (hown.out.ext e) m (by omega)
                have h2 := HYL.out
                rw [hm] at h2
                rw [h1]; congr 2
              have hm0 : (0 : Int) ≤ (m : Int) := by omega
              have hm1 : (m : Int) < ((m : Int) + 1) := by omega
              have hl0 : ((left : Int) == 0) = false := by rw [beq_eq_false_iff_ne]; omega
              have hl0' : (left : Int) ≠ 0 := by omega
              have hm6 : m ≤ 600 := by omega
              have c2 := c1 wi (Ext.refl _)
              have hl512 : left < 512 := by omega
              have HEX : Hid (∃ q, q < k ∧ fitB T V left frm q = true) := by
                rw [Hid, HV.out]
                refine fit_some (C := 8000) (by omega) (fun p q _ _ => HTBD.out p q) ?_ h0 hfk hlb
                have := HA2.out; omega
              clear hm c1
              go_upto_region 45 with fail
              go_loopw [21, 22, 158] (fun v l i wr => ∃ q : Nat, q ≤ k ∧ i = .int .i64 q ∧ v = .slice (some ⟨wb, 0, none⟩) (m + 1) c' ∧ l = .int .i64 left ∧ Ext wi wr ∧ Hid (∀ j, j < q → fitB T V left frm j = false)) (fun _ _ i _ => k - (intOf i).toNat)
              case atStart => exact ⟨0, Nat.zero_le _, rfl, rfl, rfl, Ext.refl _, fun j hj => by omega⟩
              case round =>
                obtain ⟨q, hq, rfl, rfl, rfl, hrq, hfa⟩ := hrel
                clear c2
                by_cases hlt3 : q < k
                · have hsq := shr_and left hl512 q (by omega)
                  have hr0 := Ext.refl wr
                  have hri := hr.trans hrq
                  cases TQ : left.testBit q
                  · rw [TQ] at hsq
                    simp only [Bool.false_eq_true, if_false] at hsq
                    have HNO : Hid (∀ j, j < q + 1 → fitB T V left frm j = false) := all_lt_succ hfa.out (by unfold fitB; rw [TQ]; rfl)
                    go_upto_region 47 with fail
                    refine wp_region_ext (by kernel_rfl) (by kernel_rfl) hr0 ?_
                    repeat (first | go_big_quiet_step (((fail))) | quiet_step (((fail))))
                    refine wpQuiet_nil ?_
                    rintro _ ⟨nq, rfl⟩
                    have hqq := hrq.trans nq.ok
                    go_wp2_with (fail)
                    go_roundw
                    case rel => exact ⟨q + 1, by omega, by go_num, rfl, rfl, hqq, HNO.out⟩
                    case measure => simp [intOf]; omega
                  · rw [TQ] at hsq
                    simp only [if_true] at hsq
                    obtain ⟨Q, hQ⟩ : ∃ Q, Q = 2 ^ q := ⟨_, rfl⟩
                    have hQx : Q ≤ left := by rw [hQ]; exact Nat.ge_two_pow_of_testBit TQ
                    have hQ1 : 1 ≤ Q := by rw [hQ]; exact Nat.two_pow_pos q
                    have hpq : (2 : Int) ^ q = (Q : Int) := by rw [hQ]; push_cast; rfl
                    rw [hpq] at hsq
                    have han := andNot_bit left hl512 q (by omega) TQ
                    rw [← hQ] at han
                    obtain ⟨u, hu⟩ : ∃ u, u = left - Q := ⟨_, rfl⟩
                    rw [← hu] at han
                    have hux : u < x := by omega
                    have hul : u < left := by omega
                    have HU := Lib.hid (show u = left - 2 ^ q by rw [hu, hQ])
                    have HUB : Hid (u.testBit q = false) := by rw [Hid, hu, hQ]; exact sub_bit left hl512 q (by omega) TQ
                    obtain ⟨tb, tcc, t1, t2⟩ := HTAB.out frm hfk
                    have t3 := t2 q hlt3
                    obtain ⟨rb, rc, r1, r2⟩ := HRST.out u hux
                    have r3 := r2 q hlt3
                    obtain ⟨rb', rc', s1, s2⟩ := HRST.out left hlx
                    have s3 := s2 frm hfk
                    obtain ⟨tv, htv⟩ : ∃ tv, tv = T frm q := ⟨_, rfl⟩
                    obtain ⟨rv, hrv⟩ : ∃ rv, rv = V u q := ⟨_, rfl⟩
                    obtain ⟨sv, hsv⟩ : ∃ sv, sv = V left frm := ⟨_, rfl⟩
                    have htb2 := HTBD.out frm q
                    have hrb2 := HVBD.out u q hux hlt3
                    rw [← htv] at t3 htb2; rw [← hrv] at r3 hrb2; rw [← hsv] at s3
                    have HFT : Hid (fitB T V left frm q = (tv + rv == sv)) := by
                      rw [Hid, htv, hrv, hsv, HU.out]; unfold fitB; rw [TQ, Bool.true_and]; rfl
                    have t1' := fun W (e : Ext wr W) => t1 W (hri.trans e)
                    have t3' := fun W (e : Ext wr W) => t3 W (hri.trans e)
                    have r1' := fun W (e : Ext wr W) => r1 W (hri.trans e)
                    have r3' := fun W (e : Ext wr W) => r3 W (hri.trans e)
                    have s1' := fun W (e : Ext wr W) => s1 W (hri.trans e)
                    have s3' := fun W (e : Ext wr W) => s3 W (hri.trans e)
                    have i1 : (frm : Int) < (k : Int) := by omega
                    have i2 : (0 : Int) ≤ (frm : Int) := by omega
                    have i3 : (q : Int) < (k : Int) := by omega
                    have i4 : (0 : Int) ≤ (q : Int) := by omega
                    have i5 : (u : Int) < (x : Int) := by omega
                    have i6 : (0 : Int) ≤ (u : Int) := by omega
                    have i7 : (left : Int) < (x : Int) := by omega
                    have i8 : (0 : Int) ≤ (left : Int) := by omega
                    clear hu hQ htv hrv hsv t1 t2 t3 r1 r2 r3 s1 s2 s3
                    go_upto_region 47 with fail
                    refine wp_region_ext (by kernel_rfl) (by kernel_rfl) hr0 ?_
                    repeat (first | go_big_quiet_step (((fail))) | quiet_step (((fail))))
                    refine wpQuiet_nil ?_
                    rintro _ ⟨nq, rfl⟩
                    have hqq := hrq.trans nq.ok
                    clear t1' t3' r1' r3' s1' s3' hr0
                    cases T1 : (tv + rv == sv)
                    · have HNO : Hid (∀ j, j < q + 1 → fitB T V left frm j = false) := all_lt_succ hfa.out (by rw [HFT.out, T1])
                      go_wp2_with (fail)
                      go_roundw
                      case rel => exact ⟨q + 1, by omega, by go_num, rfl, rfl, hqq, HNO.out⟩
                      case measure => simp [intOf]; omega
                    · obtain ⟨fu', rfl⟩ : ∃ f, fu = f + 1 := ⟨fu - 1, by omega⟩
                      have HST := Lib.hid (wayF_step (n := k) (f := fu') h0 hlt3 (by rw [HFT.out, T1]) hfa.out)
                      have HOQ : Hid (OwnI nq.val Bw (.slice (some ⟨wb, 0, none⟩) (m + 1) c') ys) := HOW.out.ext hqq
                      have happ := app_ints (nq.val.alloc (.cells #[.int .i64 (q : Nat)] 3)) Bw 31 _ ys [(q : Int)] (some ⟨nq.val.heap.size, 0, none⟩) 1 (HOQ.out.ext ((Ext.refl _).alloc _)) (ints_one (heap_new _ _))
                        (by rw [HM.out]; simp; omega) (by have := ((HOQ.out).lt wb rfl); rw [heap_size]; omega)
                      have HA := Lib.hid happ
                      have hblk : ∀ j, (Value.slice (some ⟨wb, 0, none⟩) (m + 1) c').ownBlock = some j → wo.heap.size ≤ j := fun j hj => by
                        have := (HOQ.out.lt j hj).1
                        have := HW9.out.2.2.2; omega
                      have HBL := Lib.hid hblk
                      have HRQ := Lib.hid (hr.trans hqq)
                      clear happ hblk
                      go_wp2_with (at_builtin; refine wpList_app _ rfl _ _ 31 rfl _ HA.out ?_; rintro v' w' ⟨hv, hg⟩; have HGR := Lib.hid (grown_ext (HRQ.out.alloc _) hg HBL.out); have HV' := Lib.hid hv; clear HA hg hv)
                      go_roundw
                      case rel =>
                        refine ⟨u, fu', q, ys ++ [(q : Int)], v', rfl, rfl, ⟨hux, by clear han hsq hpq; omega, hlt3, by simp, ?_, HUB.out, ?_, ?_⟩, HGR.out, HV'.out⟩
                        · rw [List.length_append, List.length_singleton, Nat.add_sub_cancel, nth_eq _ _ (by simp)]; simp
                        · clear han hsq hpq; rw [List.length_append, List.length_singleton]; omega
                        · have := HWAY.out
                          rw [HST.out, natI_cons, ← HU.out] at this
                          rw [← this]; simp
                      case measure => simp [intOf]; omega
                · obtain rfl : q = k := by omega
                  exfalso
                  obtain ⟨j, hj, hjt⟩ := HEX.out
                  rw [hfa.out j hj] at hjt; cases hjt
end Go.Proofs.YtplbofhgmflnlaaGreat
