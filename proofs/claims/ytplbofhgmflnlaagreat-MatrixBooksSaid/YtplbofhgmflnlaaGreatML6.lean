/-
  Texts merged: M28, M29, M30, M31, M32, N1.
-/
import Derived.Test.YtplbofhgmflnlaaGreatMK8
section
/-
  Walks: OnesCount16 (printed by genm28.py).
-/
set_option linter.unusedVariables false
set_option linter.unusedSimpArgs false
namespace Go.Proofs.YtplbofhgmflnlaaGreat
open Go.RowKit
/-- The world after some draws, with some blocks laid behind it. -/
def Gro (w w' : World) : Prop := ∃ (q : Nat) (os : Array Obj), w' = Go.Sort.grow (w.drewN q) os
theorem Gro.refl (w : World) : Gro w w := ⟨0, #[], by rw [Go.Sort.grow_empty]; rfl⟩
theorem Gro.trans {a b c : World} (h : Gro a b) (k : Gro b c) : Gro a c := by
  obtain ⟨q, os, rfl⟩ := h
  obtain ⟨q', os', rfl⟩ := k
  exact ⟨q + q', os ++ os', by show Go.Sort.grow (Go.Sort.grow ((a.drewN q).drewN q') os) os' = _; rw [Go.Sort.grow_grow, World.drewN_drewN]⟩
theorem Gro.drew {a b : World} (h : Gro a b) : Gro a b.drew := h.trans ⟨1, #[], by rw [Go.Sort.grow_empty]; rfl⟩
theorem Gro.alloc {a b : World} (h : Gro a b) (o : Obj) : Gro a (b.alloc o) := h.trans ⟨0, #[o], by rw [Go.Sort.alloc_eq_grow]; rfl⟩
theorem Gro.ext {a b : World} (h : Gro a b) : Ext a b := by
  obtain ⟨q, os, rfl⟩ := h
  refine ⟨rfl, rfl, rfl, by simp [Go.Sort.grow], fun k hk => ?_⟩
  rw [Go.Sort.heap_grow_old _ _ (by simpa using hk)]; rfl
/-- How many ones the lowest k bits have. -/
def onesF : Nat → Nat → Nat
  | 0, _ => 0
  | k + 1, n => n % 2 + onesF k (n / 2)
theorem onesF_le : ∀ k n, onesF k n ≤ k
  | 0, _ => Nat.le_refl _
  | k + 1, n => by
    have := onesF_le k (n / 2)
    simp only [onesF]; omega
theorem onesF_split : ∀ j k n, onesF (j + k) n = onesF j n + onesF k (n / 2 ^ j)
  | 0, k, n => by simp [onesF]
  | j + 1, k, n => by
    rw [Nat.add_right_comm, onesF, onesF, onesF_split j k (n / 2), Nat.div_div_eq_div_mul, Nat.pow_succ, Nat.mul_comm (2 ^ j) 2]
    omega
theorem onesF_mod : ∀ k n, onesF k (n % 2 ^ k) = onesF k n
  | 0, n => rfl
  | k + 1, n => by
    rw [onesF, onesF]
    have e1 : n % 2 ^ (k + 1) % 2 = n % 2 := by rw [Nat.pow_succ]; exact Nat.mod_mul_left_mod n (2 ^ k) 2
    have e2 : n % 2 ^ (k + 1) / 2 = n / 2 % 2 ^ k := by
      rw [Nat.pow_succ, Nat.mul_comm, Nat.mod_mul_right_div_self]
    rw [e1, e2, onesF_mod k (n / 2)]
theorem wrap_u16n (n : Int) : IntKind.u16.wrap n = n % 65536 := by simp [IntKind.wrap, IntKind.bits, IntKind.signed]
theorem wrap_u8n (n : Int) : IntKind.u8.wrap n = n % 256 := by simp [IntKind.wrap, IntKind.bits, IntKind.signed]
theorem bits_and_u16_nat (a b : Nat) (ha : a < 65536) (hb : b < 65536) : bits .and .u16 (a : Int) (b : Int) = ((a &&& b : Nat) : Int) := by
  have hx : a &&& b < 2 ^ 16 := Nat.and_lt_two_pow _ (by omega)
  have h1 : (BitVec.ofInt 16 (a : Int)).toNat = a := by
    rw [BitVec.ofInt_natCast, BitVec.toNat_ofNat]; exact Nat.mod_eq_of_lt (by omega)
  have h2 : (BitVec.ofInt 16 (b : Int)).toNat = b := by
    rw [BitVec.ofInt_natCast, BitVec.toNat_ofNat]; exact Nat.mod_eq_of_lt (by omega)
  show IntKind.u16.wrap ((BitVec.ofInt 16 (a : Int) &&& BitVec.ofInt 16 (b : Int)).toNat : Int) = _
  rw [BitVec.toNat_and, h1, h2, wrap_u16n]
  omega
theorem bits_xor_u16_nat (a b : Nat) (ha : a < 65536) (hb : b < 65536) : bits .xor .u16 (a : Int) (b : Int) = ((a ^^^ b : Nat) : Int) := by
  have hx : a ^^^ b < 2 ^ 16 := Nat.xor_lt_two_pow (by omega) (by omega)
  have h1 : (BitVec.ofInt 16 (a : Int)).toNat = a := by
    rw [BitVec.ofInt_natCast, BitVec.toNat_ofNat]; exact Nat.mod_eq_of_lt (by omega)
  have h2 : (BitVec.ofInt 16 (b : Int)).toNat = b := by
    rw [BitVec.ofInt_natCast, BitVec.toNat_ofNat]; exact Nat.mod_eq_of_lt (by omega)
  show IntKind.u16.wrap ((BitVec.ofInt 16 (a : Int) ^^^ BitVec.ofInt 16 (b : Int)).toNat : Int) = _
  rw [BitVec.toNat_xor, h1, h2, wrap_u16n]
  omega
theorem and_255 (x : Nat) (hx : x < 65536) : bits .and .u16 (x : Int) 255 = ((x % 256 : Nat) : Int) := by
  have := bits_and_u16_nat x 255 hx (by omega)
  rw [show ((255 : Nat) : Int) = 255 from rfl] at this
  rw [this, show (255 : Nat) = 2 ^ 8 - 1 from rfl, Nat.and_two_pow_sub_one_eq_mod]
/-- The library's table. -/
noncomputable def tabS : ByteArray := match regOf Tryz.f86 1 with
  | .region _ ops _ => (match ops[2]? with
    | some o => (match o.op with
      | .index _ (.const (.string s)) _ => s
      | _ => ⟨#[]⟩)
    | none => ⟨#[]⟩)
  | _ => ⟨#[]⟩
theorem tabS_all : ((List.range 256).all fun i => tabS[i]? == some (UInt8.ofNat (onesF 8 i))) = true := by kernel_rfl
theorem tabS_at (i : Nat) (h : i < 256) : tabS[i]? = some (UInt8.ofNat (onesF 8 i)) := by
  have := List.all_eq_true.1 tabS_all i (List.mem_range.2 h)
  simpa using this
theorem wp_index {o : Oper} {a : Act} {w : World} {K : Act → World → Prop} {Q : Exit → Act → World → Prop} (t : TypeId) (s : ByteArray) (i : Operand) (ho : o.op = .index t (.const (.string s)) i) (ht : Tryz.prog.underlying t = some .string)
    (q : IntKind) (n : Nat) (hi : a.eval i = .int q (n : Int)) (b : UInt8) (hb : s[n]? = some b) (h : K (a.put o.dst (.int .u8 (b.toNat : Nat))) w) : o.wp Tryz.prog a w K Q := by
  unfold Oper.wp execOp
  have hr : (Instr.index t (.string s) (.int q (n : Int))).run Tryz.prog w = .ok (.int .u8 (b.toNat : Nat)) w := by
    simp [Instr.index, asIntOf, run_underlying ht, Result.andThen, hb]
  have hc : a.eval (.const (.string s)) = .string s := rfl
  simp only [ho, hi, hc, Sem.run_bind, Sem.run_pure, hr, Result.andThen_ok]
  exact h
set_option maxRecDepth 100000 in
set_option maxHeartbeats 4000000 in
theorem oc_law {x y z p q : Nat} {wr : World} (hx : x < 65536) (hy : x / 256 = y) (hz : x % 256 = z) (hp : tabS[y]? = some (UInt8.ofNat p)) (hq : tabS[z]? = some (UInt8.ofNat q)) (hp8 : p ≤ 8) (hq8 : q ≤ 8) {Q : Exit → Act → World → Prop} (aZ : Act) (hsz : aZ.tmps.size = 11) (o0 : aZ.tmps[0]?.getD undef = .int .u16 (x : Int))
    (hend : ∀ (vs : Nat → Value) (w9 : World) (ls9 : Nat → Bool), (∀ j : Nat, j < 9 → ls9 j = true) → (Gro wr w9) → (vs 0 = .int .u16 (x : Int)) → (vs 1 = .int .u16 (y : Int)) → (vs 2 = .int .u8 (p : Int)) → (vs 3 = .int .u16 (x : Int)) → (vs 4 = .int .u16 (z : Int)) → (vs 5 = .int .u8 (q : Int)) → (vs 6 = .int .u8 ((p : Int) + (q : Int))) → (vs 7 = .int .i64 ((p : Int) + (q : Int))) → (vs 8 = .int .i64 ((p : Int) + (q : Int))) → Q .normal (((((((((aZ.put (some 3) (vs 0)).put (some 4) (vs 1)).put (some 5) (vs 2)).put (some 6) (vs 3)).put (some 7) (vs 4)).put (some 8) (vs 5)).put (some 9) (vs 6)).put (some 10) (vs 7)).put (some 2) (vs 8)) w9) : (regOf Tryz.f86 1).wp Tryz.prog Q aZ wr := by
  conv => arg 2; whnf
  refine wp_region_said3 (fun i v wz => match i with
    | 0 => v = .int .u16 (x : Int)
    | 1 => v = .int .u16 (y : Int)
    | 2 => v = .int .u8 (p : Int)
    | 3 => v = .int .u16 (x : Int)
    | 4 => v = .int .u16 (z : Int)
    | 5 => v = .int .u8 (q : Int)
    | 6 => v = .int .u8 ((p : Int) + (q : Int))
    | 7 => v = .int .i64 ((p : Int) + (q : Int))
    | _ => v = .int .i64 ((p : Int) + (q : Int))) (fun ls vs wz => Gro wr wz) (by kernel_rfl) (by kernel_rfl) (by rw [hsz]; kernel_rfl) ?_ ?_ ?_
  · exact (Gro.refl _).drew
  · refine ⟨?_, ?_, ?_, ?_, ?_, ?_, ?_, ?_, ?_, trivial⟩
    · intro ls vs a w1 hi hJ hold hdep hdon hcl K hK
      have q0 : a.tmps[0]?.getD undef = .int .u16 (x : Int) := (hold 0 (by kernel_rfl)).trans o0
      rw [if_pos (by rfl)]
      clear hold hdep hend hdon hcl o0
      go_simp
      exact hK _ _ (fun _ _ _ h => h) hJ rfl
    · intro ls vs a w1 hi hJ hold hdep hdon hcl K hK
      have q3 : a.tmps[3]?.getD undef = .int .u16 (x : Int) := (hdep 0 3 (by kernel_rfl) (by kernel_rfl)).2.1.trans (hdep 0 3 (by kernel_rfl) (by kernel_rfl)).2.2
      rw [if_pos (by rfl)]
      clear hold hdep hend hdon hcl o0
      go_simp
      rw [show (x : Int) / 256 = (y : Int) by omega]
      exact hK _ _ (fun _ _ _ h => h) hJ rfl
    · intro ls vs a w1 hi hJ hold hdep hdon hcl K hK
      have q4 : a.tmps[4]?.getD undef = .int .u16 (y : Int) := (hdep 1 4 (by kernel_rfl) (by kernel_rfl)).2.1.trans (hdep 1 4 (by kernel_rfl) (by kernel_rfl)).2.2
      clear hold hdep hend hdon o0
      rw [if_pos (by rfl)]
      refine wp_index 9 tabS (.tmp 4) (by kernel_rfl) Tryz.underlying9 .u16 y (by simpa [Act.eval, Array.getD_eq_getD_getElem?] using q4) _ hp ?_
      rw [show (UInt8.ofNat p).toNat = p by simp; omega]
      exact hK _ _ (fun _ _ _ h => h) hJ rfl
    · intro ls vs a w1 hi hJ hold hdep hdon hcl K hK
      have q0 : a.tmps[0]?.getD undef = .int .u16 (x : Int) := (hold 0 (by kernel_rfl)).trans o0
      rw [if_pos (by rfl)]
      clear hold hdep hend hdon hcl o0
      go_simp
      exact hK _ _ (fun _ _ _ h => h) hJ rfl
    · intro ls vs a w1 hi hJ hold hdep hdon hcl K hK
      have q6 : a.tmps[6]?.getD undef = .int .u16 (x : Int) := (hdep 3 6 (by kernel_rfl) (by kernel_rfl)).2.1.trans (hdep 3 6 (by kernel_rfl) (by kernel_rfl)).2.2
      rw [if_pos (by rfl)]
      clear hold hdep hend hdon hcl o0
      go_simp
      rw [and_255 x hx, hz]
      exact hK _ _ (fun _ _ _ h => h) hJ rfl
    · intro ls vs a w1 hi hJ hold hdep hdon hcl K hK
      have q7 : a.tmps[7]?.getD undef = .int .u16 (z : Int) := (hdep 4 7 (by kernel_rfl) (by kernel_rfl)).2.1.trans (hdep 4 7 (by kernel_rfl) (by kernel_rfl)).2.2
      clear hold hdep hend hdon o0
      rw [if_pos (by rfl)]
      refine wp_index 9 tabS (.tmp 7) (by kernel_rfl) Tryz.underlying9 .u16 z (by simpa [Act.eval, Array.getD_eq_getD_getElem?] using q7) _ hq ?_
      rw [show (UInt8.ofNat q).toNat = q by simp; omega]
      exact hK _ _ (fun _ _ _ h => h) hJ rfl
    · intro ls vs a w1 hi hJ hold hdep hdon hcl K hK
      have q5 : a.tmps[5]?.getD undef = .int .u8 (p : Int) := (hdep 2 5 (by kernel_rfl) (by kernel_rfl)).2.1.trans (hdep 2 5 (by kernel_rfl) (by kernel_rfl)).2.2
      have q8 : a.tmps[8]?.getD undef = .int .u8 (q : Int) := (hdep 5 8 (by kernel_rfl) (by kernel_rfl)).2.1.trans (hdep 5 8 (by kernel_rfl) (by kernel_rfl)).2.2
      rw [if_pos (by rfl)]
      clear hold hdep hend hdon hcl o0
      go_simp
      rw [wrap_u8n, show ((p : Int) + (q : Int)) % 256 = (p : Int) + (q : Int) by omega]
      exact hK _ _ (fun _ _ _ h => h) hJ rfl
    · intro ls vs a w1 hi hJ hold hdep hdon hcl K hK
      have q9 : a.tmps[9]?.getD undef = .int .u8 ((p : Int) + (q : Int)) := (hdep 6 9 (by kernel_rfl) (by kernel_rfl)).2.1.trans (hdep 6 9 (by kernel_rfl) (by kernel_rfl)).2.2
      rw [if_pos (by rfl)]
      clear hold hdep hend hdon hcl o0
      go_simp
      rw [IntWalk.i64_in _ (by omega)]
      exact hK _ _ (fun _ _ _ h => h) hJ rfl
    · intro ls vs a w1 hi hJ hold hdep hdon hcl K hK
      have q10 : a.tmps[10]?.getD undef = .int .i64 ((p : Int) + (q : Int)) := (hdep 7 10 (by kernel_rfl) (by kernel_rfl)).2.1.trans (hdep 7 10 (by kernel_rfl) (by kernel_rfl)).2.2
      rw [if_pos (by rfl)]
      clear hold hdep hend hdon hcl o0
      go_simp
      exact hK _ _ (fun _ _ _ h => h) hJ rfl
  · intro vs w9 ls9 hl9 hJ9 hφ
    have e0 := hφ 0 (by kernel_rfl)
    have e1 := hφ 1 (by kernel_rfl)
    have e2 := hφ 2 (by kernel_rfl)
    have e3 := hφ 3 (by kernel_rfl)
    have e4 := hφ 4 (by kernel_rfl)
    have e5 := hφ 5 (by kernel_rfl)
    have e6 := hφ 6 (by kernel_rfl)
    have e7 := hφ 7 (by kernel_rfl)
    have e8 := hφ 8 (by kernel_rfl)
    have hq := hend vs w9 ls9 hl9 hJ9 e0 e1 e2 e3 e4 e5 e6 e7 e8
    simp only [Act.put] at hq
    simp only [putAll, Act.put]
    exact hq
/-- How many ones a word of 16 bits has. -/
def ones (x : Nat) : Nat := onesF 16 x
set_option maxHeartbeats 1000000 in
theorem ones_gro (x : Nat) (w : World) (hx : x < 65536) : Calls Tryz.prog 86 #[.int .u16 (x : Int)] w (fun e w' => e = .returned (.int .i64 (ones x : Int)) ∧ Gro w w') := by
  have hr0 := Ext.refl w
  obtain ⟨y, hy⟩ : ∃ y, x / 256 = y := ⟨_, rfl⟩
  obtain ⟨z, hz⟩ : ∃ z, x % 256 = z := ⟨_, rfl⟩
  have hp := tabS_at y (by omega)
  have hq := tabS_at z (by omega)
  have hp8 := onesF_le 8 y
  have hq8 := onesF_le 8 z
  have HO : Hid (ones x = onesF 8 y + onesF 8 z) := by
    rw [Hid, ones, onesF_split 8 8 x, ← onesF_mod 8 x]
    rw [show (2 : Nat) ^ 8 = 256 from rfl, hy, hz, Nat.add_comm]
  obtain ⟨p, hpe⟩ : ∃ p, p = onesF 8 y := ⟨_, rfl⟩
  obtain ⟨q, hqe⟩ : ∃ q, q = onesF 8 z := ⟨_, rfl⟩
  rw [← hpe] at hp hp8 HO
  rw [← hqe] at hq hq8 HO
  rw [HO.out]
  clear hpe hqe HO
  go_enter Tryz.func86, Tryz.ntmps86
  go_upto_region 1 with fail
  refine oc_law hx hy hz hp hq hp8 hq8 _ (by rfl) rfl ?_
  intro vs w9 ls9 hl9 hJ9 e0 e1 e2 e3 e4 e5 e6 e7 e8
  simp only [Act.put, List.setIfInBounds_toArray, List.set_cons_zero, List.set_cons_succ]
  rw [e0, e1, e2, e3, e4, e5, e6, e7, e8]
  have hx9 : Gro w w9 := hJ9
  clear hJ9 e0 e1 e2 e3 e4 e5 e6 e7 e8
  go_wp2_with (fail)
  go_ret
  exact ⟨by rw [Int.natCast_add]; rfl, hx9⟩
theorem ones_any (x : Nat) (w : World) (hx : x < 65536) : Calls Tryz.prog 86 #[.int .u16 (x : Int)] w (Ret (.int .i64 (ones x : Int)) w) := (ones_gro x w hx).mono fun _ _ h => ⟨h.1, h.2.ext⟩
end Go.Proofs.YtplbofhgmflnlaaGreat
end
section
/-
  Walks: CheckFraction, Runs.
-/
set_option linter.unusedVariables false
set_option linter.unusedSimpArgs false
namespace Go.Proofs.YtplbofhgmflnlaaGreat
open Go.RowKit
/-- A fraction as a value. -/
structure Fr where
  n : Int
  ws : List Wd
  wa : Option Addr
  wc : Nat
abbrev frV (F : Fr) : Value := .agg #[.int .i64 F.n, .slice F.wa F.ws.length F.wc]
def FrAt (w : World) (F : Fr) : Prop := Wds w F.wa F.ws
theorem FrAt.ext {w w' : World} {F : Fr} (h : FrAt w F) (e : Ext w w') : FrAt w' F := RowAt.ext wdC_len h e
def FrB (F : Fr) : Prop := (∀ i, i < F.ws.length → (wth F.ws i).mask < 65536) ∧ F.ws.length ≤ 9223372036854775807
def outW (m : Nat) (x : Wd) : Bool := x.mask / 2 ^ m != 0
theorem enters88 : Enters Tryz.prog 88 := Enters.mk Tryz.func88 rfl rfl
theorem enters85 : Enters Tryz.prog 85 := Enters.mk Tryz.func85 rfl rfl
set_option maxHeartbeats 1000000 in
theorem chkF1_any (m : Nat) (x : Wd) (B : Nat) (w : World) (hm : m ≤ 12) (c0 : ∀ W, Ext w W → W.cell? ⟨B, 0, none⟩ = some (.int .i64 (m : Int))) :
    Calls Tryz.prog 88 #[wdV x, .pointer (some ⟨B, 0, none⟩)] w (Ret (.bool (outW m x)) w) := by
  obtain ⟨k, o⟩ := x
  have h0 : (0 : Int) ≤ (m : Int) := by omega
  go_enter Tryz.func88, Tryz.ntmps88
  go_wp2_with (fail)
  generalize hw1 : World.alloc _ _ = w1
  obtain ⟨he, o1, -⟩ := alloc1 hw1
  obtain ⟨b0, b1⟩ := obj_cells2 o1
  have d0 := fun W (e : Ext w1 W) => c0 W (he.trans e)
  have E1 := Ext.refl w1
  have HE := Lib.hid he
  clear hw1 o1 he c0
  go_wp2_with (fail)
  go_ret
  refine ⟨?_, HE.out⟩
  have e : ((k : Int) / 2 ^ m) = ((k / 2 ^ m : Nat) : Int) := by rw [Int.natCast_ediv, Int.natCast_pow]; rfl
  rw [e]
  refine ret_bool ?_
  show (((k / 2 ^ m : Nat) : Int) != 0) = (k / 2 ^ m != 0)
  generalize k / 2 ^ m = z
  cases z with
  | zero => rfl
  | succ z =>
    rw [show ((z + 1 : Nat) != 0) = true by simp, show (((z + 1 : Nat) : Int) != 0) = true by rw [bne_iff_ne]; omega]
/-- What CheckFraction answers. -/
def checkF (F : Fr) : Int := if F.n < 1 ∨ 12 < F.n ∨ 12 < F.ws.length then 2 else if F.ws.any (outW F.n.toNat) then 2 else 0
set_option maxHeartbeats 2000000 in
theorem checkF_any (F : Fr) (w : World) (h : FrAt w F) (hb : FrB F) : Calls Tryz.prog 33 #[frV F] w (Ret (.int .i64 (checkF F)) w) := by
  obtain ⟨n, ws, wa, wc⟩ := F
  by_cases h1 : n < 1
  · have HC : Hid (checkF ⟨n, ws, wa, wc⟩ = 2) := by rw [Hid, checkF, if_pos (.inl h1)]
    rw [HC.out]
    clear h hb HC
    go_enter Tryz.func33, Tryz.ntmps33
    go_wp2_with (fail)
    generalize hw1 : World.alloc _ _ = w1
    obtain ⟨he, o1, -⟩ := alloc1 hw1
    obtain ⟨b0, b1⟩ := obj_cells2 o1
    have E1 := Ext.refl w1
    clear hw1 o1
    go_wp2_with (fail)
    go_ret
    exact ⟨rfl, he⟩
  · by_cases h2 : 12 < n
    · have HC : Hid (checkF ⟨n, ws, wa, wc⟩ = 2) := by rw [Hid, checkF, if_pos (.inr (.inl h2))]
      rw [HC.out]
      clear h hb HC
      go_enter Tryz.func33, Tryz.ntmps33
      go_wp2_with (fail)
      generalize hw1 : World.alloc _ _ = w1
      obtain ⟨he, o1, -⟩ := alloc1 hw1
      obtain ⟨b0, b1⟩ := obj_cells2 o1
      have E1 := Ext.refl w1
      clear hw1 o1
      go_wp2_with (fail)
      go_ret
      exact ⟨rfl, he⟩
    · by_cases h3 : 12 < ws.length
      · have HC : Hid (checkF ⟨n, ws, wa, wc⟩ = 2) := by rw [Hid, checkF, if_pos (.inr (.inr h3))]
        have h3i : 12 < (ws.length : Int) := by omega
        rw [HC.out]
        clear h hb HC
        go_enter Tryz.func33, Tryz.ntmps33
        go_wp2_with (fail)
        generalize hw1 : World.alloc _ _ = w1
        obtain ⟨he, o1, -⟩ := alloc1 hw1
        obtain ⟨b0, b1⟩ := obj_cells2 o1
        have E1 := Ext.refl w1
        clear hw1 o1
        go_wp2_with (fail)
        go_ret
        exact ⟨rfl, he⟩
      · have HC : Hid (checkF ⟨n, ws, wa, wc⟩ = if ws.any (outW n.toNat) then 2 else 0) := by
          have hno : ¬ (n < 1 ∨ 12 < n ∨ 12 < ws.length) := by omega
          rw [Hid, checkF, if_neg hno]
        obtain ⟨m, rfl⟩ : ∃ m : Nat, n = (m : Int) := ⟨n.toNat, by omega⟩
        rw [HC.out, Int.toNat_natCast]
        have hm : m ≤ 12 := by omega
        have h3i : ¬ 12 < (ws.length : Int) := by omega
        have H := Lib.hid h
        obtain ⟨S, hS⟩ : ∃ S, S = ws.any (outW m) := ⟨_, rfl⟩
        rw [← hS]
        have HSH := Lib.hid hS
        clear h hb HC hS
        cases S <;> (
        go_enter Tryz.func33, Tryz.ntmps33
        go_wp2_with (fail)
        generalize hw1 : World.alloc _ _ = w1
        obtain ⟨he, o1, -⟩ := alloc1 hw1
        obtain ⟨b0, b1⟩ := obj_cells2 o1
        have E1 := Ext.refl w1
        have HE := Lib.hid he
        obtain ⟨bb, hbb⟩ : ∃ bb, bb = w.heap.size := ⟨_, rfl⟩
        rw [← hbb] at b0 b1 ⊢
        have hcf := containsFunc_wd 88 #[.pointer (some ⟨bb, 0, none⟩)] wa ws.length wc ws (outW m) w1 rfl (by omega) (H.out.ext he) (fun i hi => ⟨enters88, fun W e => chkF1_any m _ bb W hm (fun W' e' => b0 W' (e.trans e'))⟩)
        rw [← HSH.out] at hcf
        have HCF := Lib.hid hcf
        clear hw1 o1 hbb hcf HSH
        go_wp2_with (go_at_call 84; (with_reducible refine HCF.out.mono ?_); rintro e w2 ⟨rfl, he2⟩)
        go_ret
        exact ⟨rfl, HE.out.trans he2⟩)
end Go.Proofs.YtplbofhgmflnlaaGreat
end
section
/-
  Walks: Runs.
-/
set_option linter.unusedVariables false
set_option linter.unusedSimpArgs false
namespace Go.Proofs.YtplbofhgmflnlaaGreat
open Go.RowKit
/-- Whether a run has another sign than a word says. -/
def badRun (run : Nat) (x : Wd) : Bool := ((ones (x.mask &&& run) % 2 == 1) != x.odd)
set_option maxHeartbeats 1000000 in
theorem badRun_any (run : Nat) (x : Wd) (B : Nat) (w : World) (hr : run < 65536) (hx : x.mask < 65536) (c0 : ∀ W, Ext w W → W.cell? ⟨B, 0, none⟩ = some (.int .u16 (run : Int))) :
    Calls Tryz.prog 85 #[wdV x, .pointer (some ⟨B, 0, none⟩)] w (Ret (.bool (badRun run x)) w) := by
  obtain ⟨k, o⟩ := x
  obtain ⟨z, hz⟩ : ∃ z, z = k &&& run := ⟨_, rfl⟩
  have hand : bits .and .u16 (k : Int) (run : Int) = (z : Int) := by rw [hz]; exact bits_and_u16_nat k run hx hr
  have hz16 : z < 65536 := by rw [hz]; exact Nat.lt_of_le_of_lt Nat.and_le_left hx
  have HO : Hid (∀ (w1 : World) (n : Later w1), Calls Tryz.prog 86 #[.int .u16 (z : Int)] n.val (Ret (.int .i64 (ones z : Int)) n.val)) := fun w1 n => ones_any z n.val hz16
  have HR : Hid (badRun run ⟨k, o⟩ = ((ones z % 2 == 1) != o)) := by rw [Hid, badRun, hz]
  obtain ⟨q, hq⟩ : ∃ q, q = ones z := ⟨_, rfl⟩
  have hq16 : q ≤ 16 := by rw [hq]; exact onesF_le 16 z
  rw [← hq] at HO HR
  rw [HR.out]
  clear hz hx hz16 HR hq
  go_enter Tryz.func85, Tryz.ntmps85
  go_wp2_with (fail)
  generalize hw1 : World.alloc _ _ = w1
  obtain ⟨he, o1, -⟩ := alloc1 hw1
  obtain ⟨b0, b1⟩ := obj_cells2 o1
  have d0 := fun W (e : Ext w1 W) => c0 W (he.trans e)
  have hr0 := Ext.refl w1
  have HE := Lib.hid he
  clear hw1 o1 he c0
  refine wp_region_ext (by kernel_rfl) (by kernel_rfl) hr0 ?_
  repeat (first | go_big_quiet_step (((go_at_call 86; exact Calls.later (HO.out _ _)))) | quiet_step (((go_at_call 86; exact Calls.later (HO.out _ _)))))
  refine wpQuiet_nil ?_
  rintro _ ⟨nq, rfl⟩
  have hq2 := nq.ok
  go_wp2_with (fail)
  go_ret
  refine ⟨ret_bool ?_, HE.out.trans hq2⟩
  have e : ((q : Int) % 2 == 1) = (q % 2 == 1) := by
    rcases Nat.mod_two_eq_zero_or_one q with h | h
    · rw [h, show (q : Int) % 2 = 0 by omega]; rfl
    · rw [h, show (q : Int) % 2 = 1 by omega]; rfl
  rw [e]; rfl
/-- Numbers of 16 bits as cells. -/
def u16C (x : Nat) : List Value := [.int .u16 (x : Int)]
theorem u16C_len (x : Nat) : (u16C x).length = 1 := rfl
theorem u16C_one (x : Nat) : ∀ u ∈ u16C x, u.oneCell' = true := by
  intro u hu
  simp only [u16C, List.mem_cons, List.mem_nil_iff, or_false] at hu
  subst hu; rfl
abbrev OwnU (w : World) (B : Nat) (v : Value) (xs : List Nat) : Prop := OwnF 59 1 u16C w B v xs
theorem info59 : (Tryz.prog.info? 59).map (fun i => (i.zero, i.size, i.bytes)) = some (some (.int .u16 0), 1, 2) := by kernel_rfl
theorem u16_one {w : World} {b : Nat} {x : Nat} {T : TypeId} {fz : Nat × Nat} (h : w.heap[b]? = some (.cells #[.int .u16 (x : Int)] T fz)) : RowAt 1 u16C w (some ⟨b, 0, none⟩) [x] := by
  have c0 := obj_cells1 h
  refine .inr ⟨b, 0, rfl, fun i hi j hj => ?_⟩
  obtain rfl : i = 0 := by simp at hi; omega
  match j, hj with
  | 0, _ => exact c0 w (Ext.refl w)
theorem app_u16 (w : World) (B : Nat) (ty : TypeId) (v : Value) (xs ys : List Nat) (a : Option Addr) (c : Nat) (hv : OwnU w B v xs) (hx : RowAt 1 u16C w a ys) (hn : xs.length + ys.length ≤ 1000000) (hB : B ≤ w.heap.size) :
    ∃ v' w', (Builtin.append_ #[61, 61] ty #[v, .slice a ys.length c]).run Tryz.prog w = .ok v' w' ∧ OwnU w' B v' (xs ++ ys) ∧ w.grownBy w' v.ownBlock := by
  obtain ⟨i0, hi, hz0, hz1, hz2⟩ := info_parts info59
  exact app_row u16C_len u16C_one Tryz.underlying61 hi hz0 hz1 hz2 rfl (by omega) (by omega) w B ty v xs ys a c hv hx hn hB
/-- The runs below k that belong to a fraction. -/
def runsTo (ws : List Wd) (k : Nat) : List Nat := (List.range k).filter fun run => !ws.any (badRun run)
theorem runsTo_succ (ws : List Wd) (k : Nat) : runsTo ws (k + 1) = if ws.any (badRun k) then runsTo ws k else runsTo ws k ++ [k] := by
  unfold runsTo
  rw [List.range_succ, List.filter_append]
  cases h : ws.any (badRun k) <;> simp [h]
theorem runsTo_len (ws : List Wd) (k : Nat) : (runsTo ws k).length ≤ k := Nat.le_trans (List.length_filter_le _ _) (by simp)
def RetRuns (xs : List Nat) (w : World) (e : Ending) (w' : World) : Prop := ∃ a c, e = .returned (.tuple #[.slice a xs.length c, .int .i64 0]) ∧ Ext w w' ∧ OwnU w' w.heap.size (.slice a xs.length c) xs
set_option maxHeartbeats 1000000 in
theorem Runs_no (F : Fr) (w : World) (h : FrAt w F) (hb : FrB F) (hv : checkF F ≠ 0) : Calls Tryz.prog 28 #[frV F] w (Ret (.tuple #[.slice none 0 0, .int .i64 (checkF F)]) w) := by
  have hck := fun W (e : Ext w W) => checkF_any F W (h.ext e) hb
  obtain ⟨v, hve⟩ : ∃ v, v = checkF F := ⟨_, rfl⟩
  rw [← hve] at hck hv ⊢
  obtain ⟨n, ws, wa, wc⟩ := F
  have HCK := Lib.hid hck
  have hv0 : (v != 0) = true := by simpa using hv
  clear h hb hve hck hv
  go_enter Tryz.func28, Tryz.ntmps28
  go_wp2_with (fail)
  generalize hw1 : World.alloc _ _ = w1
  obtain ⟨he, o1, -⟩ := alloc1 hw1
  obtain ⟨b0, b1⟩ := obj_cells2 o1
  have E1 := Ext.refl w1
  have HE := Lib.hid he
  clear hw1 o1 he
  go_wp2_with (go_at_call 33; (with_reducible refine (HCK.out _ HE.out).mono ?_); rintro e w2 ⟨rfl, he2⟩)
  go_ret2
  exact ⟨rfl, HE.out.trans he2⟩
set_option maxRecDepth 100000 in
set_option maxHeartbeats 4000000 in
theorem Runs_ok (F : Fr) (m : Nat) (w : World) (h : FrAt w F) (hb : FrB F) (hv : checkF F = 0) (hm : F.n = (m : Int)) (hm12 : m ≤ 12) (hl : F.ws.length ≤ 12) : Calls Tryz.prog 28 #[frV F] w (RetRuns (runsTo F.ws (2 ^ m)) w) := by
  have hck := fun W (e : Ext w W) => checkF_any F W (h.ext e) hb
  rw [hv] at hck
  have HB := Lib.hid hb.1
  have H := Lib.hid h
  obtain ⟨n, ws, wa, wc⟩ := F
  simp only at hm hl
  subst hm
  have HCK := Lib.hid hck
  clear h hb hck hv
  have hpow : (2 : Nat) ^ m ≤ 4096 := by
    have : (2 : Nat) ^ m ≤ 2 ^ 12 := Nat.pow_le_pow_right (by omega) hm12
    omega
  have h0 : (0 : Int) ≤ (m : Int) := by omega
  show Calls Tryz.prog 28 #[frV ⟨(m : Int), ws, wa, wc⟩] w (RetRuns (runsTo ws (2 ^ m)) w)
  obtain ⟨Q, hQ⟩ : ∃ Q : Nat, Q = 2 ^ m := ⟨_, rfl⟩
  rw [← hQ] at hpow ⊢
  have hQi : (2 : Int) ^ m = (Q : Int) := by rw [hQ]; norm_cast
  clear hQ
  go_enter Tryz.func28, Tryz.ntmps28
  go_wp2_with (fail)
  generalize hw1 : World.alloc _ _ = w1
  obtain ⟨he, o1, -⟩ := alloc1 hw1
  obtain ⟨b0, b1⟩ := obj_cells2 o1
  have E1 := Ext.refl w1
  have HE := Lib.hid he
  obtain ⟨fb, hfb⟩ : ∃ fb, fb = w.heap.size := ⟨_, rfl⟩
  rw [← hfb] at b0 b1 ⊢
  clear hw1 o1 he hfb
  go_wp2_with (go_at_call 33; (with_reducible refine (HCK.out _ HE.out).mono ?_); rintro e w2 ⟨rfl, he2⟩)
  go_loopw [5, 15] (fun v i wr => ∃ k : Nat, k ≤ Q ∧ i = .int .u16 k ∧ Ext w1 wr ∧ Hid (OwnU wr w1.heap.size v (runsTo ws k))) (fun _ i _ => Q - (intOf i).toNat)
  case atStart => exact ⟨0, Nat.zero_le _, rfl, he2, OwnF.nil _ _ _ _ _⟩
  case round =>
    obtain ⟨k, hk, rfl, hr, hown⟩ := hrel
    obtain ⟨wo, rfl⟩ : ∃ wo : World, wo = wr := ⟨_, rfl⟩
    by_cases hlt : k < Q
    · have hk16 : k < 65536 := by omega
      go_upto_region 8 with fail
      generalize hw3 : World.alloc wo _ = w3
      obtain ⟨he3, o3, hs3⟩ := alloc1 hw3
      obtain ⟨rb, hrb⟩ : ∃ rb, rb = wo.heap.size := ⟨_, rfl⟩
      rw [← hrb] at o3 ⊢
      have c0 := obj_cells1 o3
      have hr3 := hr.trans he3
      have d1 := fun W (e : Ext w3 W) => b1 W (hr3.trans e)
      have E3 := Ext.refl w3
      have hcf := containsFunc_wd 85 #[.pointer (some ⟨rb, 0, none⟩)] wa ws.length wc ws (badRun k) w3 rfl (by omega) (H.out.ext (HE.out.trans hr3)) (fun i hi => ⟨enters85, fun W e => badRun_any k _ rb W hk16 (HB.out i hi) (fun W' e' => c0 W' (e.trans e'))⟩)
      obtain ⟨S, hS⟩ : ∃ S, S = ws.any (badRun k) := ⟨_, rfl⟩
      rw [← hS] at hcf
      have HCF := Lib.hid hcf
      have HN : Hid (runsTo ws (k + 1) = if S then runsTo ws k else runsTo ws k ++ [k]) := by rw [Hid, runsTo_succ, ← hS]
      have HO3 := Lib.hid (hown.out.ext he3)
      clear hw3 o3 hs3 hrb hcf hS he3 hown
      cases S
      · simp only [Bool.false_eq_true, if_false] at HN
        have HAPP : Hid (∀ W, Ext w3 W → ∃ v' w', (Builtin.append_ #[61, 61] 61 #[u5, .slice (some ⟨W.heap.size, 0, none⟩) 1 1]).run Tryz.prog (W.alloc (.cells #[.int .u16 (k : Int)] 59)) = .ok v' w' ∧ OwnU w' w1.heap.size v' (runsTo ws (k + 1)) ∧ Ext w1 w') := fun W e => by
          have hx := (Ext.refl W).alloc (.cells #[.int .u16 (k : Int)] 59)
          have hl := runsTo_len ws k
          obtain ⟨v', w', r1, r2, r3⟩ := app_u16 (W.alloc (.cells #[.int .u16 (k : Int)] 59)) w1.heap.size 61 u5 (runsTo ws k) [k] (some ⟨W.heap.size, 0, none⟩) 1 ((HO3.out.ext e).ext hx) (u16_one (heap_new _ _)) (by simp; omega) (by rw [heap_size]; have := (hr3.trans e).size; omega)
          refine ⟨v', w', r1, by rw [HN.out]; exact r2, grown_ext ((hr3.trans e).alloc _) r3 (fun j hj => (HO3.out.lt j hj).1)⟩
        go_wp2_with (first | (go_at_call 84; (with_reducible refine HCF.out.mono ?_); rintro e w4 ⟨rfl, he4⟩; have c4 := fun W (e : Ext w4 W) => c0 W (he4.trans e); have E4 := Ext.refl w4) | (at_builtin; refine wpList_app _ rfl _ _ 61 rfl _ (HAPP.out _ he4) ?_; rintro v' w5 ⟨hv1, hv2⟩; have HV1 := Lib.hid hv1; have HV2 := Lib.hid hv2; clear hv1 hv2 HAPP HCF))
        go_roundw
        case rel => exact ⟨k + 1, by omega, by go_num, HV2.out, HV1.out⟩
        case measure => simp [intOf]; omega
      · simp only [if_true] at HN
        have HV1 : Hid (∀ W, Ext w3 W → OwnU W w1.heap.size u5 (runsTo ws (k + 1))) := fun W e => by rw [HN.out]; exact HO3.out.ext e
        go_wp2_with (go_at_call 84; (with_reducible refine HCF.out.mono ?_); rintro e w4 ⟨rfl, he4⟩)
        go_roundw
        case rel => exact ⟨k + 1, by omega, by go_num, hr3.trans he4, HV1.out _ he4⟩
        case measure => simp [intOf]; omega
    · obtain rfl : k = Q := by omega
      obtain ⟨oa, oc, ho⟩ := slice_row (r := ⟨59, 1, u5, (runsTo ws k).length, rowF u16C (runsTo ws k)⟩) hown.out
      have ho' : u5 = .slice oa (runsTo ws k).length oc := ho
      subst ho'
      go_wp2_with (fail)
      go_ret2
      exact ⟨oa, oc, rfl, HE.out.trans hr, own_base hown.out HE.out.size⟩
end Go.Proofs.YtplbofhgmflnlaaGreat
end
section
/-
  Walks: times, byBits.
-/
set_option linter.unusedVariables false
set_option linter.unusedSimpArgs false
namespace Go.Proofs.YtplbofhgmflnlaaGreat
open Go.RowKit
/-- The product of two words. -/
def mulW (x y : Wd) : Wd := ⟨x.mask ^^^ y.mask, x.odd != y.odd⟩
theorem mulW_lt {x y : Wd} (hx : x.mask < 65536) (hy : y.mask < 65536) : (mulW x y).mask < 65536 := by
  have : x.mask ^^^ y.mask < 2 ^ 16 := Nat.xor_lt_two_pow (by omega) (by omega)
  exact this
set_option maxHeartbeats 1000000 in
theorem times_any (x y : Wd) (w : World) (hx : x.mask < 65536) (hy : y.mask < 65536) : Calls Tryz.prog 121 #[wdV x, wdV y] w (Ret (wdV (mulW x y)) w) := by
  obtain ⟨k, o⟩ := x
  obtain ⟨l, q⟩ := y
  obtain ⟨z, hz⟩ : ∃ z, z = k ^^^ l := ⟨_, rfl⟩
  have hxor : bits .xor .u16 (k : Int) (l : Int) = (z : Int) := by rw [hz]; exact bits_xor_u16_nat k l hx hy
  have HR : Hid (mulW ⟨k, o⟩ ⟨l, q⟩ = ⟨z, o != q⟩) := by rw [Hid, mulW, hz]
  rw [HR.out]
  clear hz HR
  go_enter Tryz.func121, Tryz.ntmps121
  go_wp2_with (fail)
  generalize hw1 : World.alloc _ _ = w1
  obtain ⟨he, o1, o2, o3, -⟩ := alloc3 hw1
  obtain ⟨c0, c1⟩ := obj_cells2 o3
  have E1 := Ext.refl w1
  obtain ⟨s, hs⟩ : ∃ s, s = !(o == q) := ⟨_, rfl⟩
  rw [← hs] at c1
  have hw : wdV ⟨z, o != q⟩ = .agg #[.int .u16 (z : Int), .bool s] := by rw [hs]; rfl
  rw [hw]
  refine bodyPost_ret (v := .agg #[.int .u16 (z : Int), .bool s]) (by simp [results, Tryz.results121, go_sem, c0 _ E1, c1 _ E1]) rfl ⟨rfl, he⟩
/-! ### byBits -/
theorem isnan_u16 (x : Int) (w : World) : Calls Tryz.prog 176 #[.int .u16 x] w (fun e w' => e = .returned (.bool false) ∧ w' = w) := by
  go_enter Tryz.func176, Tryz.ntmps176
  go_wp2
  go_ret
  simp
set_option maxHeartbeats 2000000 in
theorem compare_u16 (x y : Int) (w : World) : Calls Tryz.prog 151 #[.int .u16 x, .int .u16 y] w (fun e w' => e = .returned (.int .i64 (Lib.compareInt x y)) ∧ w' = w) := by
  have hn := fun z w => isnan_u16 z w
  go_enter Tryz.func151, Tryz.ntmps151
  go_wp2_with (first | (go_at_call 176; refine (hn _ _).mono ?_; rintro e w' ⟨rfl, hw⟩; rw [hw]))
  all_goals (go_ret; refine ⟨?_, rfl⟩; unfold Lib.compareInt; (repeat' split) <;> first | rfl | (exfalso; omega))
/-- The first of two numbers that is not 0. -/
def or2 (p q : Int) : Int := if p != 0 then p else q
set_option maxHeartbeats 1000000 in
theorem or_any (p q : Int) (b : Nat) (w : World) (c0 : ∀ W, Ext w W → W.cell? ⟨b, 0, none⟩ = some (.int .i64 p)) (c1 : ∀ W, Ext w W → W.cell? ⟨b, 1, none⟩ = some (.int .i64 q)) :
    Calls Tryz.prog 150 #[.slice (some ⟨b, 0, none⟩) 2 2] w (fun e w' => e = .returned (.int .i64 (or2 p q)) ∧ w' = w) := by
  have E := Ext.refl w
  cases T1 : (p != 0)
  · have hor : or2 p q = q := by unfold or2; rw [T1]; rfl
    cases T2 : (q != 0)
    · have hq0 : q = 0 := by simpa using T2
      rw [hor]
      clear hor
      go_enter Tryz.func150, Tryz.ntmps150
      go_wp2_with (fail)
      refine wp_loop_rounds 3 ?_
      rw [rounds_succ]
      go_wp2_with (fail)
      rw [rounds_succ]
      go_wp2_with (fail)
      rw [rounds_succ]
      go_wp2_with (fail)
      go_ret
      exact ⟨by rw [hq0]; rfl, rfl⟩
    · rw [hor]
      clear hor
      go_enter Tryz.func150, Tryz.ntmps150
      go_wp2_with (fail)
      refine wp_loop_rounds 3 ?_
      rw [rounds_succ]
      go_wp2_with (fail)
      rw [rounds_succ]
      go_wp2_with (fail)
      go_ret
      exact ⟨rfl, rfl⟩
  · have hor : or2 p q = p := by unfold or2; rw [T1]; rfl
    rw [hor]
    clear hor
    go_enter Tryz.func150, Tryz.ntmps150
    go_wp2_with (fail)
    refine wp_loop_rounds 3 ?_
    rw [rounds_succ]
    go_wp2_with (fail)
    go_ret
    exact ⟨rfl, rfl⟩
set_option maxRecDepth 100000 in
set_option maxHeartbeats 4000000 in
theorem by_law {ab bb k l p q : Nat} {c d z : Int} {wr : World} (ha0 : ∀ W, Ext wr W → W.cell? ⟨ab, 0, none⟩ = some (.int .u16 (k : Int))) (hb0 : ∀ W, Ext wr W → W.cell? ⟨bb, 0, none⟩ = some (.int .u16 (l : Int))) (HP : Hid (∀ W, Calls Tryz.prog 86 #[.int .u16 (k : Int)] W (fun e w' => e = .returned (.int .i64 (p : Int)) ∧ Gro W w'))) (HQ : Hid (∀ W, Calls Tryz.prog 86 #[.int .u16 (l : Int)] W (fun e w' => e = .returned (.int .i64 (q : Int)) ∧ Gro W w'))) (HC : Hid (∀ W, Calls Tryz.prog 78 #[.int .i64 (p : Int), .int .i64 (q : Int)] W (fun e w' => e = .returned (.int .i64 c) ∧ w' = W))) (HD : Hid (∀ W, Calls Tryz.prog 151 #[.int .u16 (k : Int), .int .u16 (l : Int)] W (fun e w' => e = .returned (.int .i64 d) ∧ w' = W))) (HZ : Hid (∀ W nb, W.heap[nb]? = some (.cells #[.int .i64 c, .int .i64 d] 3 (0, 0)) → Calls Tryz.prog 150 #[.slice (some ⟨nb, 0, none⟩) 2 2] W (fun e w' => e = .returned (.int .i64 z) ∧ w' = W))) {Q : Exit → Act → World → Prop} (aZ : Act) (hsz : aZ.tmps.size = 19) (o2 : aZ.tmps[2]?.getD undef = .pointer (some ⟨ab, 0, none⟩)) (o3 : aZ.tmps[3]?.getD undef = .pointer (some ⟨bb, 0, none⟩))
    (hend : ∀ (vs : Nat → Value) (w9 : World) (ls9 : Nat → Bool), (∀ j : Nat, j < 15 → ls9 j = true) → (Gro wr w9 ∧ (ls9 12 = true → ∃ nb, vs 12 = .slice (some ⟨nb, 0, none⟩) 2 2 ∧ w9.heap[nb]? = some (.cells #[.int .i64 c, .int .i64 d] 3 (0, 0)))) → (vs 0 = .pointer (some ⟨ab, 0, none⟩)) → (vs 1 = .int .u16 (k : Int)) → (vs 2 = .int .i64 (p : Int)) → (vs 3 = .pointer (some ⟨bb, 0, none⟩)) → (vs 4 = .int .u16 (l : Int)) → (vs 5 = .int .i64 (q : Int)) → (vs 6 = .int .i64 c) → (vs 7 = .pointer (some ⟨ab, 0, none⟩)) → (vs 8 = .int .u16 (k : Int)) → (vs 9 = .pointer (some ⟨bb, 0, none⟩)) → (vs 10 = .int .u16 (l : Int)) → (vs 11 = .int .i64 d) → (True) → (vs 13 = .int .i64 z) → (vs 14 = .int .i64 z) → Q .normal (((((((((((((((aZ.put (some 5) (vs 0)).put (some 6) (vs 1)).put (some 7) (vs 2)).put (some 8) (vs 3)).put (some 9) (vs 4)).put (some 10) (vs 5)).put (some 11) (vs 6)).put (some 12) (vs 7)).put (some 13) (vs 8)).put (some 14) (vs 9)).put (some 15) (vs 10)).put (some 16) (vs 11)).put (some 17) (vs 12)).put (some 18) (vs 13)).put (some 4) (vs 14)) w9) : (regOf Tryz.f123 1).wp Tryz.prog Q aZ wr := by
  conv => arg 2; whnf
  refine wp_region_said3 (fun i v wz => match i with
    | 0 => v = .pointer (some ⟨ab, 0, none⟩)
    | 1 => v = .int .u16 (k : Int)
    | 2 => v = .int .i64 (p : Int)
    | 3 => v = .pointer (some ⟨bb, 0, none⟩)
    | 4 => v = .int .u16 (l : Int)
    | 5 => v = .int .i64 (q : Int)
    | 6 => v = .int .i64 c
    | 7 => v = .pointer (some ⟨ab, 0, none⟩)
    | 8 => v = .int .u16 (k : Int)
    | 9 => v = .pointer (some ⟨bb, 0, none⟩)
    | 10 => v = .int .u16 (l : Int)
    | 11 => v = .int .i64 d
    | 12 => True
    | 13 => v = .int .i64 z
    | _ => v = .int .i64 z) (fun ls vs wz => Gro wr wz ∧ (ls 12 = true → ∃ nb, vs 12 = .slice (some ⟨nb, 0, none⟩) 2 2 ∧ wz.heap[nb]? = some (.cells #[.int .i64 c, .int .i64 d] 3 (0, 0)))) (by kernel_rfl) (by kernel_rfl) (by rw [hsz]; kernel_rfl) ?_ ?_ ?_
  · exact ⟨(Gro.refl _).drew, fun e => (by cases e)⟩
  · refine ⟨?_, ?_, ?_, ?_, ?_, ?_, ?_, ?_, ?_, ?_, ?_, ?_, ?_, ?_, ?_, trivial⟩
    · intro ls vs a w1 hi hJ hold hdep hdon hcl K hK
      have q2 : a.tmps[2]?.getD undef = .pointer (some ⟨ab, 0, none⟩) := (hold 2 (by kernel_rfl)).trans o2
      rw [if_pos (by rfl)]
      clear hold hdep hend hdon hcl o2 o3
      have HJ := Lib.hid hJ
      clear hJ
      go_simp
      exact hK _ _ (fun _ _ _ h => h) HJ.out rfl
    · intro ls vs a w1 hi hJ hold hdep hdon hcl K hK
      have q5 : a.tmps[5]?.getD undef = .pointer (some ⟨ab, 0, none⟩) := (hdep 0 5 (by kernel_rfl) (by kernel_rfl)).2.1.trans (hdep 0 5 (by kernel_rfl) (by kernel_rfl)).2.2
      rw [if_pos (by rfl)]
      clear hold hdep hend hdon hcl o2 o3
      have HJ := Lib.hid hJ
      clear hJ
      have hx := HJ.out.1.ext
      go_simp
      exact hK _ _ (fun _ _ _ h => h) HJ.out rfl
    · intro ls vs a w1 hi hJ hold hdep hdon hcl K hK
      have q6 : a.tmps[6]?.getD undef = .int .u16 (k : Int) := (hdep 1 6 (by kernel_rfl) (by kernel_rfl)).2.1.trans (hdep 1 6 (by kernel_rfl) (by kernel_rfl)).2.2
      have hn12 : ls 12 = false := by
        cases e : ls 12 with
        | false => rfl
        | true =>
          replace e := hcl 12 6 e (by kernel_rfl)
          replace e := hcl 6 2 e (by kernel_rfl)
          rw [show ls 2 = false from hi] at e
          cases e
      rw [if_pos (by rfl)]
      clear hold hdep hend hdon hcl o2 o3
      have HJ := Lib.hid hJ
      clear hJ
      obtain ⟨j1, j2⟩ := HJ.out
      go_simp
      go_at_call 86
      (with_reducible refine (HP.out _).mono ?_); rintro e w20 ⟨rfl, he2⟩
      exact hK _ _ (fun _ _ _ h => h) ⟨j1.trans he2, fun e => (by simp [hn12] at e)⟩ rfl
    · intro ls vs a w1 hi hJ hold hdep hdon hcl K hK
      have q3 : a.tmps[3]?.getD undef = .pointer (some ⟨bb, 0, none⟩) := (hold 3 (by kernel_rfl)).trans o3
      rw [if_pos (by rfl)]
      clear hold hdep hend hdon hcl o2 o3
      have HJ := Lib.hid hJ
      clear hJ
      go_simp
      exact hK _ _ (fun _ _ _ h => h) HJ.out rfl
    · intro ls vs a w1 hi hJ hold hdep hdon hcl K hK
      have q8 : a.tmps[8]?.getD undef = .pointer (some ⟨bb, 0, none⟩) := (hdep 3 8 (by kernel_rfl) (by kernel_rfl)).2.1.trans (hdep 3 8 (by kernel_rfl) (by kernel_rfl)).2.2
      rw [if_pos (by rfl)]
      clear hold hdep hend hdon hcl o2 o3
      have HJ := Lib.hid hJ
      clear hJ
      have hx := HJ.out.1.ext
      go_simp
      exact hK _ _ (fun _ _ _ h => h) HJ.out rfl
    · intro ls vs a w1 hi hJ hold hdep hdon hcl K hK
      have q9 : a.tmps[9]?.getD undef = .int .u16 (l : Int) := (hdep 4 9 (by kernel_rfl) (by kernel_rfl)).2.1.trans (hdep 4 9 (by kernel_rfl) (by kernel_rfl)).2.2
      have hn12 : ls 12 = false := by
        cases e : ls 12 with
        | false => rfl
        | true =>
          replace e := hcl 12 6 e (by kernel_rfl)
          replace e := hcl 6 5 e (by kernel_rfl)
          rw [show ls 5 = false from hi] at e
          cases e
      rw [if_pos (by rfl)]
      clear hold hdep hend hdon hcl o2 o3
      have HJ := Lib.hid hJ
      clear hJ
      obtain ⟨j1, j2⟩ := HJ.out
      go_simp
      go_at_call 86
      (with_reducible refine (HQ.out _).mono ?_); rintro e w20 ⟨rfl, he2⟩
      exact hK _ _ (fun _ _ _ h => h) ⟨j1.trans he2, fun e => (by simp [hn12] at e)⟩ rfl
    · intro ls vs a w1 hi hJ hold hdep hdon hcl K hK
      have q7 : a.tmps[7]?.getD undef = .int .i64 (p : Int) := (hdep 2 7 (by kernel_rfl) (by kernel_rfl)).2.1.trans (hdep 2 7 (by kernel_rfl) (by kernel_rfl)).2.2
      have q10 : a.tmps[10]?.getD undef = .int .i64 (q : Int) := (hdep 5 10 (by kernel_rfl) (by kernel_rfl)).2.1.trans (hdep 5 10 (by kernel_rfl) (by kernel_rfl)).2.2
      have hn12 : ls 12 = false := by
        cases e : ls 12 with
        | false => rfl
        | true =>
          replace e := hcl 12 6 e (by kernel_rfl)
          rw [show ls 6 = false from hi] at e
          cases e
      rw [if_pos (by rfl)]
      clear hold hdep hend hdon hcl o2 o3
      have HJ := Lib.hid hJ
      clear hJ
      obtain ⟨j1, j2⟩ := HJ.out
      go_simp
      go_at_call 78
      (with_reducible refine (HC.out _).mono ?_); rintro e w20 ⟨rfl, rfl⟩
      exact hK _ _ (fun _ _ _ h => h) ⟨j1, fun e => (by simp [hn12] at e)⟩ rfl
    · intro ls vs a w1 hi hJ hold hdep hdon hcl K hK
      have q2 : a.tmps[2]?.getD undef = .pointer (some ⟨ab, 0, none⟩) := (hold 2 (by kernel_rfl)).trans o2
      rw [if_pos (by rfl)]
      clear hold hdep hend hdon hcl o2 o3
      have HJ := Lib.hid hJ
      clear hJ
      go_simp
      exact hK _ _ (fun _ _ _ h => h) HJ.out rfl
    · intro ls vs a w1 hi hJ hold hdep hdon hcl K hK
      have q12 : a.tmps[12]?.getD undef = .pointer (some ⟨ab, 0, none⟩) := (hdep 7 12 (by kernel_rfl) (by kernel_rfl)).2.1.trans (hdep 7 12 (by kernel_rfl) (by kernel_rfl)).2.2
      rw [if_pos (by rfl)]
      clear hold hdep hend hdon hcl o2 o3
      have HJ := Lib.hid hJ
      clear hJ
      have hx := HJ.out.1.ext
      go_simp
      exact hK _ _ (fun _ _ _ h => h) HJ.out rfl
    · intro ls vs a w1 hi hJ hold hdep hdon hcl K hK
      have q3 : a.tmps[3]?.getD undef = .pointer (some ⟨bb, 0, none⟩) := (hold 3 (by kernel_rfl)).trans o3
      rw [if_pos (by rfl)]
      clear hold hdep hend hdon hcl o2 o3
      have HJ := Lib.hid hJ
      clear hJ
      go_simp
      exact hK _ _ (fun _ _ _ h => h) HJ.out rfl
    · intro ls vs a w1 hi hJ hold hdep hdon hcl K hK
      have q14 : a.tmps[14]?.getD undef = .pointer (some ⟨bb, 0, none⟩) := (hdep 9 14 (by kernel_rfl) (by kernel_rfl)).2.1.trans (hdep 9 14 (by kernel_rfl) (by kernel_rfl)).2.2
      rw [if_pos (by rfl)]
      clear hold hdep hend hdon hcl o2 o3
      have HJ := Lib.hid hJ
      clear hJ
      have hx := HJ.out.1.ext
      go_simp
      exact hK _ _ (fun _ _ _ h => h) HJ.out rfl
    · intro ls vs a w1 hi hJ hold hdep hdon hcl K hK
      have q13 : a.tmps[13]?.getD undef = .int .u16 (k : Int) := (hdep 8 13 (by kernel_rfl) (by kernel_rfl)).2.1.trans (hdep 8 13 (by kernel_rfl) (by kernel_rfl)).2.2
      have q15 : a.tmps[15]?.getD undef = .int .u16 (l : Int) := (hdep 10 15 (by kernel_rfl) (by kernel_rfl)).2.1.trans (hdep 10 15 (by kernel_rfl) (by kernel_rfl)).2.2
      have hn12 : ls 12 = false := by
        cases e : ls 12 with
        | false => rfl
        | true =>
          replace e := hcl 12 11 e (by kernel_rfl)
          rw [show ls 11 = false from hi] at e
          cases e
      rw [if_pos (by rfl)]
      clear hold hdep hend hdon hcl o2 o3
      have HJ := Lib.hid hJ
      clear hJ
      obtain ⟨j1, j2⟩ := HJ.out
      go_simp
      go_at_call 151
      (with_reducible refine (HD.out _).mono ?_); rintro e w20 ⟨rfl, rfl⟩
      exact hK _ _ (fun _ _ _ h => h) ⟨j1, fun e => (by simp [hn12] at e)⟩ rfl
    · intro ls vs a w1 hi hJ hold hdep hdon hcl K hK
      have q11 : a.tmps[11]?.getD undef = .int .i64 c := (hdep 6 11 (by kernel_rfl) (by kernel_rfl)).2.1.trans (hdep 6 11 (by kernel_rfl) (by kernel_rfl)).2.2
      have q16 : a.tmps[16]?.getD undef = .int .i64 d := (hdep 11 16 (by kernel_rfl) (by kernel_rfl)).2.1.trans (hdep 11 16 (by kernel_rfl) (by kernel_rfl)).2.2
      rw [if_pos (by rfl)]
      clear hold hdep hend hdon hcl o2 o3
      have HJ := Lib.hid hJ
      clear hJ
      obtain ⟨j1, j2⟩ := HJ.out
      go_simp
      exact hK _ _ (fun _ _ _ h => h) ⟨j1.alloc _, fun _ => ⟨_, rfl, heap_new _ _⟩⟩ trivial
    · intro ls vs a w1 hi hJ hold hdep hdon hcl K hK
      obtain ⟨hl12, q17, p17⟩ := hdep 12 17 (by kernel_rfl) (by kernel_rfl)
      have hl12 := hdon 12 (by kernel_rfl)
      rw [if_pos (by rfl)]
      clear hold hdep hend hdon hcl o2 o3
      have HJ := Lib.hid hJ
      clear hJ
      obtain ⟨j1, j2⟩ := HJ.out
      obtain ⟨nb, hv, hb⟩ := j2 hl12
      rw [hv] at q17
      go_simp
      go_at_call 150
      (with_reducible refine (HZ.out _ nb hb).mono ?_); rintro e w20 ⟨rfl, rfl⟩
      exact hK _ _ (fun _ _ _ h => h) ⟨j1, j2⟩ rfl
    · intro ls vs a w1 hi hJ hold hdep hdon hcl K hK
      have q18 : a.tmps[18]?.getD undef = .int .i64 z := (hdep 13 18 (by kernel_rfl) (by kernel_rfl)).2.1.trans (hdep 13 18 (by kernel_rfl) (by kernel_rfl)).2.2
      rw [if_pos (by rfl)]
      clear hold hdep hend hdon hcl o2 o3
      have HJ := Lib.hid hJ
      clear hJ
      go_simp
      exact hK _ _ (fun _ _ _ h => h) HJ.out rfl
  · intro vs w9 ls9 hl9 hJ9 hφ
    have e0 := hφ 0 (by kernel_rfl)
    have e1 := hφ 1 (by kernel_rfl)
    have e2 := hφ 2 (by kernel_rfl)
    have e3 := hφ 3 (by kernel_rfl)
    have e4 := hφ 4 (by kernel_rfl)
    have e5 := hφ 5 (by kernel_rfl)
    have e6 := hφ 6 (by kernel_rfl)
    have e7 := hφ 7 (by kernel_rfl)
    have e8 := hφ 8 (by kernel_rfl)
    have e9 := hφ 9 (by kernel_rfl)
    have e10 := hφ 10 (by kernel_rfl)
    have e11 := hφ 11 (by kernel_rfl)
    have e12 := hφ 12 (by kernel_rfl)
    have e13 := hφ 13 (by kernel_rfl)
    have e14 := hφ 14 (by kernel_rfl)
    have hq := hend vs w9 ls9 hl9 hJ9 e0 e1 e2 e3 e4 e5 e6 e7 e8 e9 e10 e11 e12 e13 e14
    simp only [Act.put] at hq
    simp only [putAll, Act.put]
    exact hq
/-- How words are ordered: by their ones, then by their numbers. -/
def byB (x y : Wd) : Int := or2 (Lib.compareInt (ones x.mask : Int) (ones y.mask : Int)) (Lib.compareInt (x.mask : Int) (y.mask : Int))
set_option maxHeartbeats 2000000 in
theorem byBits_gro (x y : Wd) (w : World) (hx : x.mask < 65536) (hy : y.mask < 65536) : Calls Tryz.prog 123 #[wdV x, wdV y] w (fun e w' => e = .returned (.int .i64 (byB x y)) ∧ Gro w w') := by
  obtain ⟨k, o⟩ := x
  obtain ⟨l, s⟩ := y
  obtain ⟨p, hp⟩ : ∃ p, p = ones k := ⟨_, rfl⟩
  obtain ⟨q, hq⟩ : ∃ q, q = ones l := ⟨_, rfl⟩
  obtain ⟨c, hc⟩ : ∃ c, c = Lib.compareInt (p : Int) (q : Int) := ⟨_, rfl⟩
  obtain ⟨d, hd⟩ : ∃ d, d = Lib.compareInt (k : Int) (l : Int) := ⟨_, rfl⟩
  obtain ⟨z, hz⟩ : ∃ z, z = or2 c d := ⟨_, rfl⟩
  have HP : Hid (∀ W, Calls Tryz.prog 86 #[.int .u16 (k : Int)] W (fun e w' => e = .returned (.int .i64 (p : Int)) ∧ Gro W w')) := fun W => by rw [hp]; exact ones_gro k W hx
  have HQ : Hid (∀ W, Calls Tryz.prog 86 #[.int .u16 (l : Int)] W (fun e w' => e = .returned (.int .i64 (q : Int)) ∧ Gro W w')) := fun W => by rw [hq]; exact ones_gro l W hy
  have HC : Hid (∀ W, Calls Tryz.prog 78 #[.int .i64 (p : Int), .int .i64 (q : Int)] W (fun e w' => e = .returned (.int .i64 c) ∧ w' = W)) := fun W => by rw [hc]; exact compare_int _ _ W
  have HD : Hid (∀ W, Calls Tryz.prog 151 #[.int .u16 (k : Int), .int .u16 (l : Int)] W (fun e w' => e = .returned (.int .i64 d) ∧ w' = W)) := fun W => by rw [hd]; exact compare_u16 _ _ W
  have HZ : Hid (∀ W nb, W.heap[nb]? = some (.cells #[.int .i64 c, .int .i64 d] 3 (0, 0)) → Calls Tryz.prog 150 #[.slice (some ⟨nb, 0, none⟩) 2 2] W (fun e w' => e = .returned (.int .i64 z) ∧ w' = W)) := fun W nb h => by
    obtain ⟨c0, c1⟩ := obj_cells2 h
    rw [hz]; exact or_any c d nb W c0 c1
  have HR : Hid (byB ⟨k, o⟩ ⟨l, s⟩ = z) := by rw [Hid, hz, hc, hd, hp, hq]; rfl
  rw [HR.out]
  clear hp hq hc hd hz HR hx hy
  go_enter Tryz.func123, Tryz.ntmps123
  go_upto_region 1 with fail
  have hg0 : Gro w ((w.alloc (.cells #[.int .u16 (k : Int), .bool o] 75)).alloc (.cells #[.int .u16 (l : Int), .bool s] 75)) := ((Gro.refl w).alloc _).alloc _
  generalize hw1 : World.alloc (World.alloc w _) _ = w1 at hg0 ⊢
  obtain ⟨he, o1, o2, -⟩ := alloc2 hw1
  have ha0 := (obj_cells2 o1).1
  have hb0 := (obj_cells2 o2).1
  have HG := Lib.hid hg0
  clear hw1 he o1 o2 hg0
  refine by_law ha0 hb0 HP HQ HC HD HZ _ (by rfl) rfl rfl ?_
  intro vs w9 ls9 hl9 hJ9 e0 e1 e2 e3 e4 e5 e6 e7 e8 e9 e10 e11 e12 e13 e14
  simp only [Act.put, List.setIfInBounds_toArray, List.set_cons_zero, List.set_cons_succ]
  rw [e0, e1, e2, e3, e4, e5, e6, e7, e8, e9, e10, e11, e13, e14]
  have hx9 : Gro w w9 := HG.out.trans hJ9.1
  clear hJ9 hl9 e0 e1 e2 e3 e4 e5 e6 e7 e8 e9 e10 e11 e12 e13 e14
  go_wp2_with (fail)
  go_ret
  exact ⟨rfl, hx9⟩
end Go.Proofs.YtplbofhgmflnlaaGreat
end
section
/-
  The library's sort at an own row of words.
-/
set_option linter.unusedVariables false
set_option linter.unusedSimpArgs false
namespace Go.Proofs.YtplbofhgmflnlaaGreat
open Go.RowKit Go.Sort
abbrev OwnW (w : World) (B : Nat) (v : Value) (xs : List Wd) : Prop := OwnF 75 2 wdC w B v xs
abbrev W16 : Type := {x : Wd // x.mask < 65536}
instance : Inhabited W16 := ⟨⟨⟨0, false⟩, by decide⟩⟩
def wC (x : W16) : List Value := wdC x.1
theorem wC_len (x : W16) : (wC x).length = 2 := rfl
theorem wC_one (x : W16) : ∀ u ∈ wC x, u.oneCell' = true := wdC_one x.1
def byW (x y : W16) : Int := byB x.1 y.1
/-- x stands ahead of y. -/
def ltW (x y : Wd) : Bool := decide (ones x.mask < ones y.mask ∨ (ones x.mask = ones y.mask ∧ x.mask < y.mask))
theorem byB_lt (x y : Wd) : decide (byB x y < 0) = ltW x y := by
  unfold byB ltW or2 Lib.compareInt
  generalize ones x.mask = p; generalize ones y.mask = q; generalize x.mask = k; generalize y.mask = l
  by_cases h1 : (p : Int) < (q : Int)
  · rw [if_pos h1]; simp; omega
  · rw [if_neg h1]
    by_cases h2 : (p : Int) > (q : Int)
    · rw [if_pos h2]; simp; omega
    · rw [if_neg h2]
      have e : p = q := by omega
      subst e
      by_cases h3 : (k : Int) < (l : Int)
      · rw [if_pos h3]; simp; omega
      · rw [if_neg h3]
        by_cases h4 : (k : Int) > (l : Int)
        · rw [if_pos h4]; simp; omega
        · rw [if_neg h4]; simp; omega
theorem byW_lt (x y : W16) : ltOf byW x y = ltW x.1 y.1 := byB_lt x.1 y.1
theorem byW_swo : SWO (ltOf byW) where
  irrefl x := by rw [byW_lt]; simp [ltW]
  trans x y z h1 h2 := by rw [byW_lt] at *; simp only [ltW, decide_eq_true_eq] at *; omega
  ntrans x y z h1 h2 := by rw [byW_lt] at *; simp only [ltW, decide_eq_false_iff_not] at *; omega
theorem rowF_val (xs : List W16) : rowF wC xs = rowF wdC (xs.map Subtype.val) := by
  unfold rowF wC
  rw [List.flatMap_map]
theorem lift16 : ∀ (xs : List Wd), (∀ x ∈ xs, x.mask < 65536) → ∃ ys : List W16, ys.map Subtype.val = xs
  | [], _ => ⟨[], rfl⟩
  | x :: xs, h => by
    obtain ⟨ys, hy⟩ := lift16 xs fun x hx => h x (List.mem_cons_of_mem _ hx)
    exact ⟨⟨x, h x List.mem_cons_self⟩ :: ys, by simp [hy]⟩
theorem sort_words (B g c : Nat) (xs : List Wd) (w : World) (hx : ∀ x ∈ xs, x.mask < 65536) (h : OwnW w B (.slice (some ⟨g, 0, none⟩) xs.length c) xs) (hn : xs.length ≤ 1000000) :
    Calls Tryz.prog 122 #[.slice (some ⟨g, 0, none⟩) xs.length c, .func (.func 123) #[] #[]] w (fun e w' => e = .returned (.tuple #[]) ∧ ∃ ys, ys.Perm xs ∧ ys.Pairwise (fun x y => ltW y x = false) ∧ ExtX g w w' ∧ OwnW w' B (.slice (some ⟨g, 0, none⟩) xs.length c) ys) := by
  obtain ⟨zs, rfl⟩ := lift16 xs hx
  rw [List.length_map] at h hn ⊢
  have h' : OwnF 75 2 wC w B (.slice (some ⟨g, 0, none⟩) zs.length c) zs := by
    unfold OwnW OwnF at h
    unfold OwnF
    rw [rowF_val]
    rwa [List.length_map] at h
  have eg : ∀ args w, (callFunc 123 args).run Tryz.prog w = .ok (.enter 123 args) w := enters_of Tryz.func123 (by kernel_rfl) rfl
  have hcon := AnyQ.slices_SortFunc sortW 2 (fun w => Tryz.isAgg75 w) (fun w => Tryz.sizeOf75 w) wC wC_len wC_one byW byW_swo 123 #[] g 0 c zs.toArray w eg (fun _ _ _ _ x y => byBits_gro x.1 y.1 _ x.2 y.2) (holdsK_own wC_len h') (own_slice_lt h') (by simp; omega)
  change Calls Tryz.prog 122 _ _ _ at hcon
  rw [List.size_toArray] at hcon
  refine hcon.mono ?_
  rintro e w' ⟨rfl, d', n, os, hp, hs, rfl⟩
  have hl : d'.size = zs.length := by have := hp.1; simpa using this
  refine ⟨rfl, d'.toList.map Subtype.val, (by simpa using perm_of_in (d := zs.toArray) (by simpa using hp) : d'.toList.Perm zs).map _, ?_, extX_put _ _, ?_⟩
  · rw [List.pairwise_map]
    rw [← hl] at hs
    refine (pairwise_of_in hs).imp ?_
    intro x y hxy
    rw [byW_lt] at hxy
    exact hxy
  · have := own_sortK wC_len h' (ys := d'.toList) (by simp [hl]) n os
    unfold OwnW OwnF
    unfold OwnF at this
    rw [rowF_val] at this
    rw [List.length_map]
    simpa using this
theorem sort_words_none (w : World) : Calls Tryz.prog 122 #[.slice none 0 0, .func (.func 123) #[] #[]] w (fun e w' => e = .returned (.tuple #[]) ∧ w' = w) := AnyF.slices_SortFunc_none sortW none 0 _ w
end Go.Proofs.YtplbofhgmflnlaaGreat
end
section
/-
  Walks: the reference's Bits and Odd.
-/
set_option linter.unusedVariables false
set_option linter.unusedSimpArgs false
namespace Go.Proofs.YtplbofhgmflnlaaGreat
open Go.RowKit
theorem ones_half (y : Nat) (hy : y < 65536) : ones y = y % 2 + ones (y / 2) := by
  have h := onesF_split 15 1 (y / 2)
  have e : y / 2 / 2 ^ 15 = 0 := by
    rw [show (2 : Nat) ^ 15 = 32768 from rfl]; omega
  rw [e] at h
  have h1 : onesF 1 0 = 0 := rfl
  rw [h1, Nat.add_zero] at h
  show y % 2 + onesF 15 (y / 2) = y % 2 + onesF 16 (y / 2)
  rw [show onesF 16 (y / 2) = onesF (15 + 1) (y / 2) from rfl, h, Nat.add_zero]
theorem and_one (x : Nat) (hx : x < 65536) : bits .and .u16 (x : Int) 1 = ((x % 2 : Nat) : Int) := by
  have := bits_and_u16_nat x 1 hx (by omega)
  rw [show ((1 : Nat) : Int) = 1 from rfl] at this
  rw [this, show (1 : Nat) = 2 ^ 1 - 1 from rfl, Nat.and_two_pow_sub_one_eq_mod]
set_option maxHeartbeats 1000000 in
theorem bits_any (x : Nat) (w : World) (hx : x < 65536) : Calls Tryz.prog 36 #[.int .u16 (x : Int)] w (fun e w' => e = .returned (.int .i64 (ones x : Int)) ∧ w' = w) := by
  go_enter Tryz.func36, Tryz.ntmps36
  go_wp2_with (fail)
  go_loopw [0, 3] (fun v n wr => ∃ y q : Nat, v = .int .u16 (y : Int) ∧ n = .int .i64 (q : Int) ∧ y < 65536 ∧ q ≤ 16 ∧ Hid (q + ones y = ones x) ∧ wr = w) (fun v _ _ => (intOf v).toNat)
  case atStart => exact ⟨x, 0, rfl, rfl, hx, by omega, Nat.zero_add _, rfl⟩
  case round =>
    obtain ⟨y, q, rfl, rfl, hy, hq, hh, rfl⟩ := hrel
    by_cases hlt : 0 < y
    · have hand := and_one y hy
      obtain ⟨b, hb⟩ : ∃ b, b = y % 2 := ⟨_, rfl⟩
      have hb2 : b < 2 := by omega
      rw [← hb] at hand
      obtain ⟨z, hz⟩ : ∃ z, z = y / 2 := ⟨_, rfl⟩
      have hz2 : z < y := by omega
      have hdiv : (y : Int) / 2 = (z : Int) := by omega
      have HN : Hid (q + b + ones z = ones x) := by
        rw [Hid, ← hh.out, ones_half y hy, ← hb, ← hz]; omega
      have hsum : q + b ≤ 16 := by
        have h1 := HN.out
        have h2 : ones x ≤ 16 := onesF_le 16 x
        omega
      have hlti : 0 < (y : Int) := by omega
      clear hb hz hh
      go_wp2_with (fail)
      go_roundw
      case rel => exact ⟨z, q + b, rfl, by go_num, by omega, hsum, HN, by first | exact rfl | trivial⟩
      case measure => simp [intOf]; omega
    · obtain rfl : y = 0 := by omega
      have HN : Hid (ones x = q) := by
        rw [Hid, ← hh.out]; rfl
      go_wp2_with (fail)
      go_ret
      exact ⟨by rw [HN.out]; rfl, rfl⟩
def oddB (k run : Nat) : Bool := ones (k &&& run) % 2 == 1
set_option maxHeartbeats 1000000 in
theorem odd_any (k run : Nat) (w : World) (hk : k < 65536) (hr : run < 65536) : Calls Tryz.prog 89 #[.int .u16 (k : Int), .int .u16 (run : Int)] w (fun e w' => e = .returned (.bool (oddB k run)) ∧ w' = w) := by
  obtain ⟨z, hz⟩ : ∃ z, z = k &&& run := ⟨_, rfl⟩
  have hand : bits .and .u16 (k : Int) (run : Int) = (z : Int) := by rw [hz]; exact bits_and_u16_nat k run hk hr
  have hz16 : z < 65536 := by rw [hz]; exact Nat.lt_of_le_of_lt Nat.and_le_left hk
  have HB := Lib.hid (bits_any z w hz16)
  have HR : Hid (oddB k run = (ones z % 2 == 1)) := by rw [Hid, oddB, hz]
  obtain ⟨q, hq⟩ : ∃ q, q = ones z := ⟨_, rfl⟩
  have hq16 : q ≤ 16 := by rw [hq]; exact onesF_le 16 z
  rw [← hq] at HB HR
  rw [HR.out]
  clear hz hz16 HR hq
  go_enter Tryz.func89, Tryz.ntmps89
  go_wp2_with (go_at_call 36; (with_reducible refine HB.out.mono ?_); rintro e w2 ⟨rfl, rfl⟩)
  go_ret
  refine ⟨ret_bool ?_, rfl⟩
  rcases Nat.mod_two_eq_zero_or_one q with h | h
  · rw [h]; rw [show ((q : Int) % 2 == 1) = false by rw [show (q : Int) % 2 = 0 by omega]; rfl]; rfl
  · rw [h]; rw [show ((q : Int) % 2 == 1) = true by rw [show (q : Int) % 2 = 1 by omega]; rfl]; rfl
end Go.Proofs.YtplbofhgmflnlaaGreat
end
