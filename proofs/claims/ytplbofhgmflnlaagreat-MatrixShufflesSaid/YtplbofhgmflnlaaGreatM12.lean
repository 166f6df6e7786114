/-
  Walks: Least (printed by genm12.py).
-/
import Derived.Test.YtplbofhgmflnlaaGreatM11
set_option linter.unusedVariables false
set_option linter.unusedSimpArgs false
namespace Go.Proofs.YtplbofhgmflnlaaGreat
open Go.RowKit
set_option maxRecDepth 100000 in
set_option maxHeartbeats 4000000 in
theorem kr_law {bt eb : Nat} {xa xb : Int} {ra rb : Int} {wr : World} {K9 : World → Prop} (HK0 : Hid (K9 wr.drew)) (HKC : Hid (∀ W, K9 W → W.cell? ⟨eb, 0, none⟩ = some (.int .i64 xa) ∧ W.cell? ⟨eb, 1, none⟩ = some (.int .i64 xb))) (HCA : Hid (∀ W, K9 W → Calls Tryz.prog 79 #[.int .i64 xa, .pointer (some ⟨bt, 0, none⟩)] W (fun e w' => e = .returned (.int .i64 ra) ∧ K9 w'))) (HCB : Hid (∀ W, K9 W → Calls Tryz.prog 79 #[.int .i64 xb, .pointer (some ⟨bt, 0, none⟩)] W (fun e w' => e = .returned (.int .i64 rb) ∧ K9 w'))) {Q : Exit → Act → World → Prop} (aZ : Act) (hsz : aZ.tmps.size = 86) (o13 : aZ.tmps[13]?.getD undef = .func (.func 79) #[] #[.pointer (some ⟨bt, 0, none⟩)]) (o16 : aZ.tmps[16]?.getD undef = .pointer (some ⟨eb, 0, none⟩))
    (hend : ∀ (vs : Nat → Value) (w9 : World) (ls9 : Nat → Bool), (∀ j : Nat, j < 10 → ls9 j = true) → (K9 w9) → (vs 0 = .func (.func 79) #[] #[.pointer (some ⟨bt, 0, none⟩)]) → (vs 1 = .pointer (some ⟨eb, 0, none⟩)) → (vs 2 = .int .i64 xa) → (vs 3 = .int .i64 ra) → (vs 4 = .func (.func 79) #[] #[.pointer (some ⟨bt, 0, none⟩)]) → (vs 5 = .pointer (some ⟨eb, 1, none⟩)) → (vs 6 = .int .i64 xb) → (vs 7 = .int .i64 rb) → (vs 8 = .int .i64 ra) → (vs 9 = .int .i64 rb) → Q .normal ((((((((((aZ.put (some 65) (vs 0)).put (some 66) (vs 1)).put (some 67) (vs 2)).put (some 68) (vs 3)).put (some 69) (vs 4)).put (some 70) (vs 5)).put (some 71) (vs 6)).put (some 72) (vs 7)).put (some 17) (vs 8)).put (some 18) (vs 9)) w9) : (regOf Tryz.f20 21).wp Tryz.prog Q aZ wr := by
  conv => arg 2; whnf
  refine wp_region_said3 (fun i v wz => match i with
    | 0 => v = .func (.func 79) #[] #[.pointer (some ⟨bt, 0, none⟩)]
    | 1 => v = .pointer (some ⟨eb, 0, none⟩)
    | 2 => v = .int .i64 xa
    | 3 => v = .int .i64 ra
    | 4 => v = .func (.func 79) #[] #[.pointer (some ⟨bt, 0, none⟩)]
    | 5 => v = .pointer (some ⟨eb, 1, none⟩)
    | 6 => v = .int .i64 xb
    | 7 => v = .int .i64 rb
    | 8 => v = .int .i64 ra
    | _ => v = .int .i64 rb) (fun ls vs wz => K9 wz) (by kernel_rfl) (by kernel_rfl) (by rw [hsz]; kernel_rfl) ?_ ?_ ?_
  · exact HK0.out
  · refine ⟨?_, ?_, ?_, ?_, ?_, ?_, ?_, ?_, ?_, ?_, trivial⟩
    · intro ls vs a w1 hi hJ hold hdep hdon hcl K hK
      have q13 : a.tmps[13]?.getD undef = .func (.func 79) #[] #[.pointer (some ⟨bt, 0, none⟩)] := (hold 13 (by kernel_rfl)).trans o13
      rw [if_pos (by rfl)]
      clear hold hdep hend hdon hcl o13 o16
      have HJ := Lib.hid hJ
      clear hJ
      go_simp
      exact hK _ _ (fun _ _ _ h => h) HJ.out rfl
    · intro ls vs a w1 hi hJ hold hdep hdon hcl K hK
      have q16 : a.tmps[16]?.getD undef = .pointer (some ⟨eb, 0, none⟩) := (hold 16 (by kernel_rfl)).trans o16
      rw [if_pos (by rfl)]
      clear hold hdep hend hdon hcl o13 o16
      have HJ := Lib.hid hJ
      clear hJ
      go_simp
      exact hK _ _ (fun _ _ _ h => h) HJ.out rfl
    · intro ls vs a w1 hi hJ hold hdep hdon hcl K hK
      have q66 : a.tmps[66]?.getD undef = .pointer (some ⟨eb, 0, none⟩) := (hdep 1 66 (by kernel_rfl) (by kernel_rfl)).2.1.trans (hdep 1 66 (by kernel_rfl) (by kernel_rfl)).2.2
      rw [if_pos (by rfl)]
      clear hold hdep hend hdon hcl o13 o16
      have HJ := Lib.hid hJ
      clear hJ
      obtain ⟨c1, c2⟩ := HKC.out _ HJ.out
      go_simp
      exact hK _ _ (fun _ _ _ h => h) HJ.out rfl
    · intro ls vs a w1 hi hJ hold hdep hdon hcl K hK
      have q65 : a.tmps[65]?.getD undef = .func (.func 79) #[] #[.pointer (some ⟨bt, 0, none⟩)] := (hdep 0 65 (by kernel_rfl) (by kernel_rfl)).2.1.trans (hdep 0 65 (by kernel_rfl) (by kernel_rfl)).2.2
      have q67 : a.tmps[67]?.getD undef = .int .i64 xa := (hdep 2 67 (by kernel_rfl) (by kernel_rfl)).2.1.trans (hdep 2 67 (by kernel_rfl) (by kernel_rfl)).2.2
      rw [if_pos (by rfl)]
      clear hold hdep hend hdon hcl o13 o16
      have HJ := Lib.hid hJ
      clear hJ
      have hen := enters79 #[.int .i64 xa, .pointer (some ⟨bt, 0, none⟩)] w1
      go_simp
      (with_reducible refine (HCA.out _ HJ.out).mono ?_); rintro e w20 ⟨rfl, hk⟩
      exact hK _ _ (fun _ _ _ h => h) hk rfl
    · intro ls vs a w1 hi hJ hold hdep hdon hcl K hK
      have q13 : a.tmps[13]?.getD undef = .func (.func 79) #[] #[.pointer (some ⟨bt, 0, none⟩)] := (hold 13 (by kernel_rfl)).trans o13
      rw [if_pos (by rfl)]
      clear hold hdep hend hdon hcl o13 o16
      have HJ := Lib.hid hJ
      clear hJ
      go_simp
      exact hK _ _ (fun _ _ _ h => h) HJ.out rfl
    · intro ls vs a w1 hi hJ hold hdep hdon hcl K hK
      have q16 : a.tmps[16]?.getD undef = .pointer (some ⟨eb, 0, none⟩) := (hold 16 (by kernel_rfl)).trans o16
      rw [if_pos (by rfl)]
      clear hold hdep hend hdon hcl o13 o16
      have HJ := Lib.hid hJ
      clear hJ
      go_simp
      exact hK _ _ (fun _ _ _ h => h) HJ.out rfl
    · intro ls vs a w1 hi hJ hold hdep hdon hcl K hK
      have q70 : a.tmps[70]?.getD undef = .pointer (some ⟨eb, 1, none⟩) := (hdep 5 70 (by kernel_rfl) (by kernel_rfl)).2.1.trans (hdep 5 70 (by kernel_rfl) (by kernel_rfl)).2.2
      rw [if_pos (by rfl)]
      clear hold hdep hend hdon hcl o13 o16
      have HJ := Lib.hid hJ
      clear hJ
      obtain ⟨c1, c2⟩ := HKC.out _ HJ.out
      go_simp
      exact hK _ _ (fun _ _ _ h => h) HJ.out rfl
    · intro ls vs a w1 hi hJ hold hdep hdon hcl K hK
      have q69 : a.tmps[69]?.getD undef = .func (.func 79) #[] #[.pointer (some ⟨bt, 0, none⟩)] := (hdep 4 69 (by kernel_rfl) (by kernel_rfl)).2.1.trans (hdep 4 69 (by kernel_rfl) (by kernel_rfl)).2.2
      have q71 : a.tmps[71]?.getD undef = .int .i64 xb := (hdep 6 71 (by kernel_rfl) (by kernel_rfl)).2.1.trans (hdep 6 71 (by kernel_rfl) (by kernel_rfl)).2.2
      rw [if_pos (by rfl)]
      clear hold hdep hend hdon hcl o13 o16
      have HJ := Lib.hid hJ
      clear hJ
      have hen := enters79 #[.int .i64 xb, .pointer (some ⟨bt, 0, none⟩)] w1
      go_simp
      (with_reducible refine (HCB.out _ HJ.out).mono ?_); rintro e w20 ⟨rfl, hk⟩
      exact hK _ _ (fun _ _ _ h => h) hk rfl
    · intro ls vs a w1 hi hJ hold hdep hdon hcl K hK
      have q68 : a.tmps[68]?.getD undef = .int .i64 ra := (hdep 3 68 (by kernel_rfl) (by kernel_rfl)).2.1.trans (hdep 3 68 (by kernel_rfl) (by kernel_rfl)).2.2
      rw [if_pos (by rfl)]
      clear hold hdep hend hdon hcl o13 o16
      have HJ := Lib.hid hJ
      clear hJ
      go_simp
      exact hK _ _ (fun _ _ _ h => h) HJ.out rfl
    · intro ls vs a w1 hi hJ hold hdep hdon hcl K hK
      have q72 : a.tmps[72]?.getD undef = .int .i64 rb := (hdep 7 72 (by kernel_rfl) (by kernel_rfl)).2.1.trans (hdep 7 72 (by kernel_rfl) (by kernel_rfl)).2.2
      rw [if_pos (by rfl)]
      clear hold hdep hend hdon hcl o13 o16
      have HJ := Lib.hid hJ
      clear hJ
      go_simp
      exact hK _ _ (fun _ _ _ h => h) HJ.out rfl
  · intro vs w9 ls9 hl9 hJ9 hφ
    have e0 := hφ 0 (by kernel_rfl)
    have e1 := hφ 1 (by kernel_rfl)
    have e2 := hφ 2 (by kernel_rfl)
    have e3 := hφ 3 (by kernel_rfl)
    have e4 := hφ 4 (by kernel_rfl)
    have e5 := hφ 5 (by kernel_rfl)
    have e6 := hφ 6 (by kernel_rfl)
    have e7 := hφ 7 (by kernel_rfl)
    have e8 := hφ 8 (by kernel_rfl)
    have e9 := hφ 9 (by kernel_rfl)
    have hq := hend vs w9 ls9 hl9 hJ9 e0 e1 e2 e3 e4 e5 e6 e7 e8 e9
    simp only [Act.put] at hq
    simp only [putAll, Act.put]
    exact hq
/-! ### edges -/
structure Ed where
  a : Nat
  b : Nat
  c : Int
deriving DecidableEq
def edC (x : Ed) : List Value := [.int .i64 (x.a : Int), .int .i64 (x.b : Int), .int .i64 x.c]
theorem edC_len (x : Ed) : (edC x).length = 3 := rfl
theorem edC_one (x : Ed) : ∀ u ∈ edC x, u.oneCell' = true := by
  intro u hu
  simp only [edC, List.mem_cons, List.mem_nil_iff, or_false] at hu
  rcases hu with rfl | rfl | rfl <;> rfl
def dth (xs : List Ed) (i : Nat) : Ed := xs.getD i ⟨0, 0, 0⟩
theorem dth_eq (xs : List Ed) (i : Nat) (h : i < xs.length) : dth xs i = xs[i] := by simp [dth, h]
abbrev edV (x : Ed) : Value := .agg #[.int .i64 (x.a : Int), .int .i64 (x.b : Int), .int .i64 x.c]
abbrev OwnE (w : World) (B : Nat) (v : Value) (es : List Ed) : Prop := OwnF 138 3 edC w B v es
abbrev Eds (w : World) (a : Option Addr) (es : List Ed) : Prop := RowAt 3 edC w a es
theorem info138 : (Tryz.prog.info? 138).map (fun i => (i.zero, i.size, i.bytes)) = some (some (.agg #[.int .i64 0, .int .i64 0, .int .i64 0]), 3, 24) := by kernel_rfl
theorem app_ed (w : World) (B : Nat) (ty : TypeId) (v : Value) (xs ys : List Ed) (a : Option Addr) (c : Nat) (hv : OwnE w B v xs) (hx : Eds w a ys) (hn : xs.length + ys.length ≤ 1000000) (hB : B ≤ w.heap.size) :
    ∃ v' w', (Builtin.append_ #[136, 136] ty #[v, .slice a ys.length c]).run Tryz.prog w = .ok v' w' ∧ OwnE w' B v' (xs ++ ys) ∧ w.grownBy w' v.ownBlock := by
  obtain ⟨i0, hi, hz0, hz1, hz2⟩ := info_parts info138
  exact app_row edC_len edC_one Tryz.underlying136 hi hz0 hz1 hz2 rfl (by omega) (by omega) w B ty v xs ys a c hv hx hn hB
theorem ed_one {w : World} {b : Nat} {x : Ed} {T : TypeId} {fz : Nat × Nat} (h : w.heap[b]? = some (.cells #[.int .i64 (x.a : Int), .int .i64 (x.b : Int), .int .i64 x.c] T fz)) : Eds w (some ⟨b, 0, none⟩) [x] := by
  obtain ⟨c0, c1, c2⟩ := obj_cells3 h
  refine .inr ⟨b, 0, rfl, fun i hi j hj => ?_⟩
  obtain rfl : i = 0 := by simp at hi; omega
  match j, hj with
  | 0, _ => exact c0 w (Ext.refl w)
  | 1, _ => exact c1 w (Ext.refl w)
  | 2, _ => exact c2 w (Ext.refl w)
theorem ed_at {w : World} {a : Option Addr} {xs : List Ed} (h : Eds w a xs) (i : Nat) (hi : i < xs.length) : ∃ b o, a = some ⟨b, o, none⟩ ∧
    (∀ W, Ext w W → W.cell? ⟨b, o + i * 3, none⟩ = some (.int .i64 ((dth xs i).a : Int))) ∧
    (∀ W, Ext w W → W.cell? ⟨b, o + i * 3 + 1, none⟩ = some (.int .i64 ((dth xs i).b : Int))) ∧
    (∀ W, Ext w W → W.cell? ⟨b, o + i * 3 + 2, none⟩ = some (.int .i64 (dth xs i).c)) := by
  obtain ⟨b, o, h1, h2⟩ := RowAt.at edC_len h i hi
  rw [← dth_eq xs i hi] at h2
  refine ⟨b, o, h1, fun W e => by have := h2 0 (by omega) W e; simpa [edC] using this, fun W e => by have := h2 1 (by omega) W e; simpa [edC] using this, fun W e => by have := h2 2 (by omega) W e; simpa [edC] using this⟩
def edRow (T : Nat → Nat → Int) (i k : Nat) : List Ed := (List.range k).map fun q => ⟨i, q, T i q⟩
def edTo (T : Nat → Nat → Int) (i : Nat) : List Ed := (List.range i).flatMap fun p => edRow T p p
theorem edRow_succ (T : Nat → Nat → Int) (i k : Nat) : edRow T i (k + 1) = edRow T i k ++ [⟨i, k, T i k⟩] := by
  unfold edRow; rw [List.range_succ]; simp
theorem edTo_succ (T : Nat → Nat → Int) (i : Nat) : edTo T (i + 1) = edTo T i ++ edRow T i i := by
  unfold edTo; rw [List.range_succ]; simp
theorem edRow_len (T : Nat → Nat → Int) (i k : Nat) : (edRow T i k).length = k := by simp [edRow]
theorem edTo_len (T : Nat → Nat → Int) : ∀ i, (edTo T i).length * 2 + i = i * i
  | 0 => rfl
  | i + 1 => by
    have := edTo_len T i
    rw [edTo_succ, List.length_append, edRow_len]
    have e : (i + 1) * (i + 1) = i * i + i + i + 1 := by rw [Nat.add_mul, Nat.mul_add]; omega
    omega
theorem edTo_mem {T : Nat → Nat → Int} {n : Nat} {e : Ed} (h : e ∈ edTo T n) : e.a < n ∧ e.b < e.a ∧ e.c = T e.a e.b := by
  unfold edTo edRow at h
  rw [List.mem_flatMap] at h
  obtain ⟨p, hp, hq⟩ := h
  rw [List.mem_map] at hq
  obtain ⟨q, hq, rfl⟩ := hq
  rw [List.mem_range] at hp hq
  exact ⟨hp, hq, rfl⟩
/-! ### the cheapest edges joined first -/
def kruStep (s : (Nat → Nat) × Int) (e : Ed) : (Nat → Nat) × Int :=
  if s.1 e.a = s.1 e.b then s else (fun i => if s.1 i = s.1 e.a then s.1 e.b else s.1 i, s.2 + e.c)
def kruF (es : List Ed) : (Nat → Nat) × Int := es.foldl kruStep (id, 0)
theorem kruF_take (es : List Ed) (k : Nat) (hk : k < es.length) : kruF (es.take (k + 1)) = kruStep (kruF (es.take k)) (dth es k) := by
  unfold kruF
  rw [List.take_succ_eq_append_getElem hk, List.foldl_append, dth_eq es k hk]; rfl
theorem kruF_bd {es : List Ed} {C : Int} (hC : 0 ≤ C) (h : ∀ e ∈ es, 0 ≤ e.c ∧ e.c ≤ C) : ∀ k, k ≤ es.length → 0 ≤ (kruF (es.take k)).2 ∧ (kruF (es.take k)).2 ≤ C * k
  | 0, _ => by simp [kruF]
  | k + 1, hk => by
    have ih := kruF_bd hC h k (by omega)
    have hd := h (dth es k) (by rw [dth_eq es k (by omega)]; exact List.getElem_mem _)
    rw [kruF_take es k (by omega)]
    have e : C * ((k + 1 : Nat) : Int) = C * k + C := by rw [Int.natCast_add, Int.mul_add]; simp
    unfold kruStep
    split
    · rw [e]; omega
    · rw [e]; simp only; omega
theorem Forest.join {n : Nat} {ys : List Int} {R dep : Nat → Nat} (h : Forest n ys R dep) {a b : Nat} (ha : a < n) (hb : b < n) (hra : R a = a) (hrb : R b = b) (hra' : (nth ys a).toNat = a) (hne : a ≠ b) :
    Forest n (ys.set a (b : Int)) (fun i => if R i = a then b else R i) (fun i => if R i = a then dep i + dep b + 1 else dep i) := by
  have e : ∀ i, i < n → nth (ys.set a (b : Int)) i = if i = a then (b : Int) else nth ys i := fun i hi => nth_set _ _ _ _ (by rw [h.len]; exact hi)
  have hba : R b ≠ a := by rw [hrb]; exact fun e => hne e.symm
  refine ⟨by rw [List.length_set]; exact h.len, fun i hi => ?_, fun i hi => ?_, fun i hi => ?_, fun i hi => ?_⟩
  · rw [e i hi]; split
    · omega
    · exact h.bd i hi
  · rw [e i hi]
    by_cases e1 : i = a
    · subst e1
      rw [if_pos rfl, Int.toNat_natCast]
      intro _
      simp only [hra, if_true, if_neg hba]
      omega
    · rw [if_neg e1]
      intro hp
      have h1 := h.dn i hi hp
      have h2 := h.rt i hi
      simp only [h2]
      split <;> omega
  · rw [e i hi]
    by_cases e1 : i = a
    · subst e1
      rw [if_pos rfl, Int.toNat_natCast]
      simp only [hra, if_true, if_neg hba, hrb]
      split <;> rfl
    · rw [if_neg e1]
      simp only [h.rt i hi]
  · rw [e i hi]
    by_cases e1 : i = a
    · subst e1
      rw [if_pos rfl, Int.toNat_natCast]
      intro e2; exact absurd e2.symm hne
    · rw [if_neg e1]
      intro e2
      have := h.rr i hi e2
      simp only [this, if_neg e1]
theorem Forest.init (n : Nat) : Forest n (rngI n) id (fun _ => 0) := by
  have e : ∀ i, i < n → nth (rngI n) i = (i : Int) := fun i hi => nth_fl _ _ _ hi
  refine ⟨rngI_len n, fun i hi => ?_, fun i hi => ?_, fun i hi => ?_, fun i hi => ?_⟩
  · rw [e i hi]; omega
  · rw [e i hi, Int.toNat_natCast]; intro h; exact absurd rfl h
  · rw [e i hi, Int.toNat_natCast]
  · intro _; rfl

/-- What is asked of the library's sort at edges. -/
def SortEd : Prop := ∀ (B g c : Nat) (es : List Ed) (w : World), OwnE w B (.slice (some ⟨g, 0, none⟩) es.length c) es → es.length ≤ 1000000 →
  Calls Tryz.prog 76 #[.slice (some ⟨g, 0, none⟩) es.length c, .func (.func 77) #[] #[]] w (fun e w' => e = .returned (.tuple #[]) ∧ ∃ es', es'.Perm es ∧ es'.Pairwise (fun x y => x.c ≤ y.c) ∧ ExtX g w w' ∧ OwnE w' B (.slice (some ⟨g, 0, none⟩) es.length c) es')
def SortEdN : Prop := ∀ (w : World), Calls Tryz.prog 76 #[.slice none 0 0, .func (.func 77) #[] #[]] w (fun e w' => e = .returned (.tuple #[]) ∧ w' = w)
/-- What Least answers: the edges in some order by their costs, joined. -/
def RetLeast (T : Nat → Nat → Int) (n : Nat) (w : World) (e : Ending) (w' : World) : Prop :=
  ∃ es : List Ed, es.Perm (edTo T n) ∧ es.Pairwise (fun x y => x.c ≤ y.c) ∧ e = .returned (.tuple #[.int .i64 (kruF es).2, .int .i64 0]) ∧ Ext w w'
set_option maxRecDepth 100000 in
set_option maxHeartbeats 4000000 in
theorem least_ok (hsort : SortEd) (hsortN : SortEdN) (P : Pw) (a : Option Addr) (ss : List Se) (sc : Nat) (w : World) (hp : PlanAt w P) (hb : PlanB P) (hs : SetsAt w a ss) (hn : ss.length ≤ 1000) (hcap : ss.length ≤ sc) (hl : ∀ i, i < ss.length → (eth ss i).lv.xs.length ≤ 9223372036854775807) (hv : checkE P ss = 0) :
    Calls Tryz.prog 20 #[planV P, .slice a ss.length sc] w (RetLeast (costM P.fs ss) ss.length w) := by
  obtain ⟨h1, h2, h3⟩ := checkE_ok hv
  have hck := fun W (e : Ext w W) => check_any P a ss sc W (hp.ext e) hb (hs.ext e) (by omega) hl
  have hco := fun W (e : Ext w W) p q (hp' : p < ss.length) (hq : q < ss.length) => cost_any P (eth ss p) (eth ss q) W (hp.ext e) (planOk h1).1 (fun i hi => (anyFac_off (planOk h1).2.2.1 i hi).2.2) ((hs.ext e).lv p hp') ((hs.ext e).lv q hq) (levB_len (setOk (h3 p hp')).1) (levB_len (setOk (h3 q hq)).1)
  have hcb := fun p q => costTo_bd (eth ss p).lv.xs (eth ss q).lv.xs (fun i hi => (anyFac_off (planOk h1).2.2.1 i hi).2.2) P.fs.length (Nat.le_refl _)
  have hf8 := (planOk h1).1
  rw [hv] at hck
  obtain ⟨fs, fa, fc, fo, ga, gc⟩ := P
  simp only at hco hcb hf8 ⊢
  obtain ⟨T, hT⟩ : ∃ T, T = costM fs ss := ⟨_, rfl⟩
  have htbd : ∀ p q, 0 ≤ T p q ∧ T p q ≤ 8000 := fun p q => by
    rw [hT]
    have := hcb p q
    show 0 ≤ costTo fs _ _ fs.length ∧ costTo fs _ _ fs.length ≤ 8000
    omega
  rw [← hT]
  have HCK := Lib.hid hck; have HCO := Lib.hid hco; have HT := Lib.hid hT; have HTB := Lib.hid htbd; have HS := Lib.hid hs; have HSO := Lib.hid hsort; have HSN := Lib.hid hsortN
  clear hck hco hT htbd hcb hf8 hp hb hs hl hv h1 h2 h3 hsort hsortN
  go_enter Tryz.func20, Tryz.ntmps20
  go_wp2_with (fail)
  generalize hw1 : World.alloc _ _ = w1
  obtain ⟨he, o1, -⟩ := alloc1 hw1
  obtain ⟨b0, b1⟩ := obj_cells2 o1
  clear hw1 o1
  have HE := Lib.hid he
  clear he
  (with_reducible refine (HCK.out _ HE.out).mono ?_); rintro e w2 ⟨rfl, he2⟩
  have HE2 := Lib.hid he2
  clear HCK he2
  go_wp2_with (fail)
  go_loopw [7, 27] (fun v i wr => ∃ (k : Nat) (vv : Value), k ≤ ss.length ∧ i = .int .i64 k ∧ v = vv ∧ Ext w1 wr ∧ Hid (OwnE wr w1.heap.size vv (edTo T k))) (fun _ i _ => ss.length - (intOf i).toNat)
  case atStart => exact ⟨0, _, Nat.zero_le _, rfl, rfl, HE2.out, OwnF.nil _ _ _ _ _⟩
  case round =>
    obtain ⟨i, _, hi, rfl, rfl, hr, hown⟩ := hrel
    obtain ⟨wo, rfl⟩ : ∃ wo : World, wo = wr := ⟨_, rfl⟩
    by_cases hlt : i < ss.length
    · obtain ⟨sb, so, rfl, d0, d1⟩ := set_at (HS.out.ext (HE.out.trans hr)).row i hlt
      have Er := Ext.refl wo
      obtain ⟨A0, hA0⟩ : ∃ A0, A0 = Value.slice (eth ss i).lv.a (eth ss i).lv.xs.length (eth ss i).lv.c := ⟨_, rfl⟩
      obtain ⟨A1, hA1⟩ : ∃ A1, A1 = Value.int .i64 (eth ss i).blk := ⟨_, rfl⟩
      have HA : Hid (setV (eth ss i) = .agg #[A0, A1]) := by rw [hA0, hA1]; rfl
      have hii : (i : Int) ≤ (ss.length : Int) := by omega
      have hi0 : (0 : Int) ≤ (i : Int) := by omega
      have hic : (i : Int) ≤ (sc : Int) := by omega
      go_upto_region 9 with fail
      generalize hw3 : World.alloc wo _ = w3
      obtain ⟨he3, o3, hs3⟩ := alloc1 hw3
      obtain ⟨ab, hab⟩ : ∃ ab, ab = wo.heap.size := ⟨_, rfl⟩
      rw [← hab] at o3 ⊢
      rw [← hA0, ← hA1] at o3
      have HAB := Lib.hid o3
      have hr3 := hr.trans he3
      have HOW3 := Lib.hid (hown.out.ext he3)
      clear hw3 o3 d0 d1 Er he3 hs3 hab hown hA0 hA1
      go_loopw [7, 36] (fun v j wr => ∃ (k : Nat) (vv : Value), k ≤ i ∧ j = .int .i64 k ∧ v = vv ∧ Ext w1 wr ∧ Hid (wr.heap[ab]? = some (.cells #[A0, A1] 49 (0, 0))) ∧ Hid (OwnE wr w1.heap.size vv (edTo T i ++ edRow T i k))) (fun _ j _ => i - (intOf j).toNat)
      case atStart => exact ⟨0, _, Nat.zero_le _, rfl, rfl, hr3, HAB.out, Lib.hid (by simpa [edRow] using HOW3.out)⟩
      case round =>
        obtain ⟨k, _, hk, rfl, rfl, hrq, hab, hown⟩ := hrel
        obtain ⟨wi, rfl⟩ : ∃ wi : World, wi = wr := ⟨_, rfl⟩
        clear HAB HOW3 hr3
        by_cases hlt2 : k < i
        · obtain ⟨z0, z1⟩ := obj_cells2 hab.out
          obtain ⟨sb', so', hbo, d0, d1⟩ := set_at (HS.out.ext (HE.out.trans hrq)).row k (by omega)
          simp only [Option.some.injEq, Addr.mk.injEq, and_true] at hbo
          obtain ⟨rfl, rfl⟩ := hbo
          have Er := Ext.refl wi
          obtain ⟨B0, hB0⟩ : ∃ B0, B0 = Value.slice (eth ss k).lv.a (eth ss k).lv.xs.length (eth ss k).lv.c := ⟨_, rfl⟩
          obtain ⟨B1, hB1⟩ : ∃ B1, B1 = Value.int .i64 (eth ss k).blk := ⟨_, rfl⟩
          have HBV : Hid (setV (eth ss k) = .agg #[B0, B1]) := by rw [hB0, hB1]; rfl
          go_upto_region 11 with fail
          generalize hw5 : World.alloc wi _ = w5
          obtain ⟨he5, o5, hs5⟩ := alloc1 hw5
          obtain ⟨bb, hbb⟩ : ∃ bb, bb = wi.heap.size := ⟨_, rfl⟩
          rw [← hbb] at o5 ⊢
          rw [← hB0, ← hB1] at o5
          obtain ⟨c0, c1⟩ := obj_cells2 o5
          have hr5 := hrq.trans he5
          have HAB5 := Lib.hid (he5.block hab.out)
          have HOW5 := Lib.hid (hown.out.ext he5)
          have p0 := fun W (e : Ext w5 W) => b0 W (hr5.trans e)
          have p1 := fun W (e : Ext w5 W) => b1 W (hr5.trans e)
          have a0 := fun W (e : Ext w5 W) => z0 W (he5.trans e)
          have a1 := fun W (e : Ext w5 W) => z1 W (he5.trans e)
          have E5 := Ext.refl w5
          obtain ⟨C, hC⟩ : ∃ C, C = T i k := ⟨_, rfl⟩
          have HCL : Hid (∀ W, Ext w5 W → Calls Tryz.prog 75 #[.agg #[.slice fa fs.length fc, .slice ga fo.length gc], .agg #[A0, A1], .agg #[B0, B1]] W (Ret (.int .i64 C) W)) := fun W e => by
            have := HCO.out W (HE.out.trans (hr5.trans e)) i k hlt (by omega)
            rw [HA.out, HBV.out] at this
            rw [hC, HT.out]; exact this
          have HAPP : Hid (∀ W, Ext w5 W → ∃ v' w', (Builtin.append_ #[136, 136] 136 #[u7, .slice (some ⟨W.heap.size, 0, none⟩) 1 1]).run Tryz.prog (W.alloc (.cells #[.int .i64 (i : Int), .int .i64 (k : Int), .int .i64 C] 138)) = .ok v' w' ∧ OwnE w' w1.heap.size v' (edTo T i ++ edRow T i (k + 1)) ∧ Ext w1 w' ∧ w'.heap[ab]? = some (.cells #[A0, A1] 49 (0, 0))) := fun W e => by
            have hx := (Ext.refl W).alloc (.cells #[.int .i64 (i : Int), .int .i64 (k : Int), .int .i64 C] 138)
            have hl := edTo_len T i
            have hl2 : i * i ≤ 1000 * 1000 := Nat.mul_le_mul (by omega) (by omega)
            obtain ⟨v', w', r1, r2, r3⟩ := app_ed (W.alloc (.cells #[.int .i64 (i : Int), .int .i64 (k : Int), .int .i64 C] 138)) w1.heap.size 136 u7 (edTo T i ++ edRow T i k) [⟨i, k, C⟩] (some ⟨W.heap.size, 0, none⟩) 1 ((HOW5.out.ext e).ext hx) (ed_one (heap_new _ _)) (by rw [List.length_append, edRow_len]; simp; omega) (by rw [heap_size]; have := (hr5.trans e).size; omega)
            refine ⟨v', w', r1, ?_, ?_, ?_⟩
            · rw [List.append_assoc, hC, ← edRow_succ] at r2; exact r2
            · exact grown_ext ((hr5.trans e).alloc _) r3 (fun j hj => (HOW5.out.lt j hj).1)
            · have hb1 := hx.block (e.block HAB5.out)
              rw [r3.block ab (lt_of_block hb1) (fun e2 => own_type_ne ((HOW5.out.ext e).ext hx) hb1 (by decide) (by first | exact e2 | exact e2.symm))]
              exact hb1
          clear hw5 o5 hs5 hbb hown hC z0 z1 d0 d1 Er hB0 hB1
          go_wp2_with (first | (go_at_call 75; (with_reducible refine (HCL.out _ E5).mono ?_); rintro e w20 ⟨rfl, he20⟩) | (at_builtin; refine wpList_app _ rfl _ _ 136 rfl _ (HAPP.out _ he20) ?_; rintro v' w21 ⟨hv1, hu7, hv3⟩; have HV1 := Lib.hid hv1; have HV3 := Lib.hid hv3; clear hv1 hv3 HAPP HCL))
          go_roundw
          case rel => exact ⟨k + 1, v', by omega, by go_num, rfl, hu7, HV3.out, HV1.out⟩
          case measure => simp [intOf]; omega
        · obtain rfl : k = i := by omega
          have HO2 : Hid (OwnE wi w1.heap.size u7 (edTo T (k + 1))) := by rw [Hid, edTo_succ]; exact hown.out
          clear hown hab
          go_wp2_with (fail)
          go_roundw
          case rel => exact ⟨k + 1, u7, by omega, by go_num, rfl, hrq, HO2.out⟩
          case measure => simp [intOf]; omega
    · obtain ⟨n, hnn⟩ : ∃ n, n = ss.length := ⟨_, rfl⟩
      obtain rfl : i = n := by omega
      have HNN := Lib.hid hnn
      rw [← hnn] at hn hlt ⊢
      clear hnn
      have hel := edTo_len T i
      have hel2 : i * i ≤ 1000 * 1000 := Nat.mul_le_mul hn hn
      have HEL : Hid ((edTo T i).length ≤ 1000000) := by rw [Hid]; omega
      have hso : Calls Tryz.prog 76 #[u7, .func (.func 77) #[] #[]] wo (fun e w' => e = .returned (.tuple #[]) ∧ ∃ (es : List Ed) (a : Option Addr) (c : Nat), u7 = .slice a es.length c ∧ es.Perm (edTo T i) ∧ es.Pairwise (fun x y => x.c ≤ y.c) ∧ Ext w1 w' ∧ Eds w' a es) := by
        rcases hown.out.2 with ⟨hv, h0⟩ | ⟨g, cap, cur, hv, hgB, -⟩
        · rw [hv]
          refine (HSN.out wo).mono ?_
          rintro e w' ⟨h1, rfl⟩
          have : edTo T i = [] := List.length_eq_zero_iff.1 h0
          exact ⟨h1, [], none, 0, rfl, by rw [this], .nil, hr, .inl rfl⟩
        · rw [hv]
          have ho := hown.out
          rw [hv] at ho
          refine (HSO.out w1.heap.size g cap (edTo T i) wo ho HEL.out).mono ?_
          rintro e w' ⟨h1, es', h2, h3, h4, h5⟩
          have hle := h2.length_eq
          rw [← hle] at h5
          refine ⟨h1, es', some ⟨g, 0, none⟩, cap, by rw [hle], h2, h3, ?_, RowAt.own edC_len h5⟩
          exact ⟨h4.os.trans hr.os, h4.tape.trans hr.tape, h4.output.trans hr.output, Nat.le_trans hr.size h4.size, fun k hk => by
            rw [h4.block k (by have := hr.size; omega) (by omega)]; exact Below.block hr k hk⟩
      have HSR := Lib.hid hso
      clear hso hown hel hel2 hr
      go_wp2_with (fail)
      (with_reducible refine HSR.out.mono ?_); rintro e w4 ⟨rfl, es, ea, ec, rfl, hpm, hsr, hr4, hes⟩
      have HPM := Lib.hid hpm; have HSD := Lib.hid hsr; have HES := Lib.hid hes; have HR4 := Lib.hid hr4
      have HLN : Hid (es.length ≤ 1000000) := by rw [Hid, hpm.length_eq]; exact HEL.out
      have hnum := numbers_any i w4 (by omega)
      have HNU := Lib.hid hnum
      clear hpm hsr hes hr4 hnum HSR
      go_wp2_with (go_at_call 74; (with_reducible refine HNU.out.mono ?_); rintro e w5 ⟨g, c, rfl, he5, ho5⟩; rw [rngI_len] at ho5 ⊢; have HO5 := Lib.hid ho5; have HE5 := Lib.hid he5; clear HNU ho5 he5)
      generalize hw6 : World.alloc w5 _ = w6
      obtain ⟨he6, o6, hs6⟩ := alloc1 hw6
      obtain ⟨bt, hbt⟩ : ∃ bt, bt = w5.heap.size := ⟨_, rfl⟩
      rw [← hbt] at o6 ⊢
      have HBT := Lib.hid o6
      have HO6 := Lib.hid (HO5.out.ext he6)
      have HE6 := Lib.hid (HE5.out.trans he6)
      have HG : Hid (w4.heap.size ≤ g ∧ g ≠ bt ∧ w4.heap.size ≤ bt) := ⟨(own_lt HO5.out).1, by have := (own_lt HO5.out).2; omega, by have := HE5.out.size; omega⟩
      clear hw6 o6 he6 hs6 hbt
      have hle6 : es.length ≤ 1000000 := HLN.out
      go_loopw [14, 61] (fun sm j wr => ∃ (k : Nat), k ≤ es.length ∧ j = .int .i64 k ∧ sm = .int .i64 (kruF (es.take k)).2 ∧ Hid (Ext w4 wr ∧ wr.heap[bt]? = some (.cells #[.slice (some ⟨g, 0, none⟩) i c] 31 (0, 0)) ∧ ∃ ys dep, OwnI wr w4.heap.size (.slice (some ⟨g, 0, none⟩) i c) ys ∧ Forest i ys (kruF (es.take k)).1 dep)) (fun _ j _ => es.length - (intOf j).toNat)
      case atStart => exact ⟨0, Nat.zero_le _, rfl, rfl, HE6.out, HBT.out, rngI i, fun _ => 0, HO6.out, Forest.init i⟩
      case round =>
        obtain ⟨k, hk, rfl, rfl, hh⟩ := hrel
        by_cases hlt2 : k < es.length
        · obtain ⟨eb0, eo0, rfl, d0, d1, d2⟩ := ed_at (HES.out.ext edC_len hh.out.1) k hlt2
          have hmem : dth es k ∈ edTo T i := by rw [dth_eq es k hlt2]; exact HPM.out.mem_iff.1 (List.getElem_mem hlt2)
          obtain ⟨m1, m2, m3⟩ := edTo_mem hmem
          have htb := HTB.out (dth es k).a (dth es k).b
          rw [← m3] at htb
          have hbd := kruF_bd (C := 8000) (by omega) (fun e he => by have := edTo_mem (HPM.out.mem_iff.1 he); rw [this.2.2]; exact HTB.out _ _) k hk
          have HST : Hid (kruF (es.take (k + 1)) = kruStep (kruF (es.take k)) (dth es k)) := kruF_take es k hlt2
          obtain ⟨z, hz⟩ : ∃ z, z = (kruF (es.take k)).2 := ⟨_, rfl⟩
          obtain ⟨R, hR⟩ : ∃ R, R = (kruF (es.take k)).1 := ⟨_, rfl⟩
          have HH : Hid (Ext w4 wr ∧ wr.heap[bt]? = some (.cells #[.slice (some ⟨g, 0, none⟩) i c] 31 (0, 0)) ∧ ∃ ys dep, OwnI wr w4.heap.size (.slice (some ⟨g, 0, none⟩) i c) ys ∧ Forest i ys R dep) := by rw [hR]; exact hh.out
          rw [← hz] at hbd ⊢
          have HZ := Lib.hid hz; have HRR := Lib.hid hR
          clear hz hR hh
          generalize dth es k = ed at *
          obtain ⟨xa, xb, xc⟩ := ed
          simp only at d0 d1 d2 m1 m2 htb
          have hza : (0 : Int) ≤ z ∧ z ≤ 8000000000 := by have := HLN.out; omega
          have Er := Ext.refl wr
          have hkn : (k : Int) < (es.length : Int) := by omega
          go_upto_region 21 with fail
          generalize hw7 : World.alloc wr _ = w7
          obtain ⟨he7, o7, hs7⟩ := alloc1 hw7
          obtain ⟨eb, heb⟩ : ∃ eb, eb = wr.heap.size := ⟨_, rfl⟩
          rw [← heb] at o7 ⊢
          obtain ⟨hh1, hh2, ys, dep, hh3, hh4⟩ := HH.out
          have HD := Lib.hid hh4
          have hgs := (own_lt hh3).2
          have hbs := lt_of_block hh2
          have HEB : Hid (eb ≠ g ∧ eb ≠ bt) := ⟨by omega, by omega⟩
          obtain ⟨K9, hK9⟩ : ∃ K9 : World → Prop, K9 = fun W => Ext w4 W ∧ W.heap[bt]? = some (.cells #[.slice (some ⟨g, 0, none⟩) i c] 31 (0, 0)) ∧ W.heap[eb]? = some (.cells #[.int .i64 (xa : Int), .int .i64 (xb : Int), .int .i64 xc] 138 (0, 0)) ∧ ∃ ys, OwnI W w4.heap.size (.slice (some ⟨g, 0, none⟩) i c) ys ∧ Forest i ys R dep := ⟨_, rfl⟩
          have hk7 : K9 w7 := by rw [hK9]; exact ⟨hh1.trans he7, he7.block hh2, o7, ys, hh3.ext he7, hh4⟩
          have HK0 : Hid (K9 w7.drew) := by
            rw [hK9] at hk7 ⊢
            obtain ⟨k1, k2, k3, ys, k4, k5⟩ := hk7
            exact ⟨k1.drew, k2, k3, ys, k4.ext (Ext.refl _).drew, k5⟩
          have HKC : Hid (∀ W, K9 W → W.cell? ⟨eb, 0, none⟩ = some (.int .i64 (xa : Int)) ∧ W.cell? ⟨eb, 1, none⟩ = some (.int .i64 (xb : Int))) := fun W h => by
            rw [hK9] at h
            obtain ⟨q0, q1, q2⟩ := obj_cells3 h.2.2.1
            exact ⟨q0 W (Ext.refl _), q1 W (Ext.refl _)⟩
          have hcall : ∀ x, x < i → ∀ W, K9 W → Calls Tryz.prog 79 #[.int .i64 (x : Int), .pointer (some ⟨bt, 0, none⟩)] W (fun e w' => e = .returned (.int .i64 (R x : Nat)) ∧ K9 w') := fun x hx W h => by
            rw [hK9] at h
            obtain ⟨k1, k2, k3, ys, k4, k5⟩ := h
            refine (root_any bt w4.heap.size g i c x ys R dep W hx (by omega) (obj_cells1 k2 W (Ext.refl _)) (Ne.symm HG.out.2.1) k4 k5).mono ?_
            rintro e w' ⟨r1, r2, ys', r3, r4⟩
            refine ⟨r1, ?_⟩
            rw [hK9]
            refine ⟨⟨r2.os.trans k1.os, r2.tape.trans k1.tape, r2.output.trans k1.output, Nat.le_trans k1.size r2.size, fun j hj => ?_⟩, ?_, ?_, ys', r3, r4⟩
            · rw [r2.block j (by have := k1.size; omega) (by have := HG.out.1; omega)]; exact Below.block k1 j hj
            · rw [r2.block bt (lt_of_block k2) (Ne.symm HG.out.2.1)]; exact k2
            · rw [r2.block eb (lt_of_block k3) HEB.out.1]; exact k3
          have HCA := Lib.hid (hcall xa m1)
          have HCB := Lib.hid (hcall xb (by omega))
          have HK9 := Lib.hid hK9
          obtain ⟨ra, hra⟩ : ∃ ra, ra = R xa := ⟨_, rfl⟩
          obtain ⟨rb, hrb⟩ : ∃ rb, rb = R xb := ⟨_, rfl⟩
          rw [← hra] at HCA; rw [← hrb] at HCB
          have HRA := Lib.hid hra; have HRB := Lib.hid hrb
          have hrbd := hh4.root_bd (dep xa + 1) xa (by omega) m1
          have hrbd2 := hh4.root_bd (dep xb + 1) xb (by omega) (by omega)
          rw [← hra] at hrbd; rw [← hrb] at hrbd2
          have hran := hrbd.1; have hrbn := hrbd2.1
          clear hcall hk7 hK9 hw7 o7 hs7 heb hh1 hh2 hh3 hh4 HH d0 d1 d2 Er he7 hgs hbs hra hrb hrbd hrbd2 hmem m3
          refine kr_law HK0 HKC HCA HCB _ (by rfl) rfl rfl ?_
          intro vs w9 ls9 hl9 hJ9 e0 e1 e2 e3 e4 e5 e6 e7 e8 e9
          simp only [Act.put, List.setIfInBounds_toArray, List.set_cons_zero, List.set_cons_succ]
          rw [e0, e1, e2, e3, e4, e5, e6, e7, e8, e9]
          have HJ9 := Lib.hid hJ9
          clear HCA HCB HK0 HKC hJ9
          have hj := HJ9.out
          rw [HK9.out] at hj
          obtain ⟨k1, k2, k3, ys', k4, k5⟩ := hj
          have q0 := obj_cells1 k2
          obtain ⟨-, -, q2⟩ := obj_cells3 k3
          have q2' := q2 w9 (Ext.refl _)
          have q0' := q0 w9 (Ext.refl _)
          have hra0 : (0 : Int) ≤ (ra : Int) := by omega
          have hra1 : (ra : Int) < (i : Int) := by omega
          have HK1 := Lib.hid k1; have HK2 := Lib.hid k2; have HK4 := Lib.hid k4; have HK5 := Lib.hid k5
          clear k1 k2 k3 k4 k5 q0 q2
          cases T1 : ((ra : Int) != (rb : Int))
          · have hab : ra = rb := by simp at T1; omega
            have HNX : Hid (kruF (es.take (k + 1)) = (R, z)) := by
              rw [Hid, HST.out, kruStep, ← HRR.out, ← HRA.out, ← HRB.out, if_pos hab, HRR.out, HZ.out]
            go_wp2_with (fail)
            go_roundw
            case rel => exact ⟨k + 1, by omega, by go_num, by rw [HNX.out], HK1.out, HK2.out, ys', dep, HK4.out, by rw [HNX.out]; exact HK5.out⟩
            case measure => simp [intOf]; omega
          · have hab : ra ≠ rb := by simp at T1; omega
            have HNX : Hid (kruF (es.take (k + 1)) = (fun j => if R j = ra then rb else R j, z + xc)) := by
              rw [Hid, HST.out, kruStep, ← HRR.out, ← HRA.out, ← HRB.out, if_neg hab, ← HZ.out]
            have qa := ownI_cell HK5.out.len HK4.out ra hran
            have qf := ownI_free HK5.out.len HK4.out ra
            have HS2 : Hid (OwnI (w9.setCell ⟨g, ra, none⟩ (.int .i64 (rb : Int))) w4.heap.size (.slice (some ⟨g, 0, none⟩) i c) (ys'.set ra (rb : Int))) := ownI_set2 HK5.out.len HK4.out _
            have hroot : ∀ x, x < i → (nth ys' (R x)).toNat = R x ∧ R (R x) = R x := fun x hx => by
              have h1 := HK5.out.root_bd (dep x + 1) x (by omega) hx
              exact ⟨h1.2, HK5.out.rr _ h1.1 h1.2⟩
            have HFJ : Hid (Forest i (ys'.set ra (rb : Int)) (fun j => if R j = ra then rb else R j) (fun j => if R j = ra then dep j + dep rb + 1 else dep j)) := by
              have h1 := hroot xa m1
              have h2 := hroot xb (by omega)
              rw [← HRA.out] at h1; rw [← HRB.out] at h2
              exact HK5.out.join hran hrbn h1.2 h2.2 h1.1 hab
            have HX2 : Hid (Ext w4 (w9.setCell ⟨g, ra, none⟩ (.int .i64 (rb : Int))) ∧ (w9.setCell ⟨g, ra, none⟩ (.int .i64 (rb : Int))).heap[bt]? = some (.cells #[.slice (some ⟨g, 0, none⟩) i c] 31 (0, 0))) := ⟨HK1.out.set HG.out.1 _, by rw [heap_set_ne _ (Ne.symm HG.out.2.1)]; exact HK2.out⟩
            have q3 : (w9.setCell ⟨g, ra, none⟩ (.int .i64 (rb : Int))).cell? ⟨eb, 2, none⟩ = some (.int .i64 xc) := by
              unfold World.cell? at q2' ⊢
              rw [heap_set_ne _ HEB.out.1]; exact q2'
            clear hroot
            go_wp2_with (fail)
            go_roundw
            case rel => exact ⟨k + 1, by omega, by go_num, by rw [HNX.out], HX2.out.1, HX2.out.2, _, _, HS2.out, by rw [HNX.out]; exact HFJ.out⟩
            case measure => simp [intOf]; omega
        · obtain rfl : k = es.length := by omega
          have HKR : Hid (es.take es.length = es) := List.take_length
          have HRX := Lib.hid (HE.out.trans (HR4.out.trans hh.out.1))
          rw [HKR.out]
          clear hh
          go_wp2_with (fail)
          go_ret2
          exact ⟨es, by rw [← HNN.out]; exact HPM.out, HSD.out, rfl, HRX.out⟩
end Go.Proofs.YtplbofhgmflnlaaGreat
