/-
  Walks: OnesCount16 (printed by genm28.py).
-/
import Derived.Test.YtplbofhgmflnlaaGreatM27
set_option linter.unusedVariables false
set_option linter.unusedSimpArgs false
namespace Go.Proofs.YtplbofhgmflnlaaGreat
open Go.RowKit
/-- The world after some draws, with some blocks laid behind it. -/
def Gro (w w' : World) : Prop := ∃ (q : Nat) (os : Array Obj), w' = Go.Sort.grow (w.drewN q) os
theorem Gro.refl (w : World) : Gro w w := ⟨0, #[], by rw [Go.Sort.grow_empty]; rfl⟩
theorem Gro.trans {a b c : World} (h : Gro a b) (k : Gro b c) : Gro a c := by
  obtain ⟨q, os, rfl⟩ := h
  obtain ⟨q', os', rfl⟩ := k
  exact ⟨q + q', os ++ os', by show Go.Sort.grow (Go.Sort.grow ((a.drewN q).drewN q') os) os' = _; rw [Go.Sort.grow_grow, World.drewN_drewN]⟩
theorem Gro.drew {a b : World} (h : Gro a b) : Gro a b.drew := h.trans ⟨1, #[], by rw [Go.Sort.grow_empty]; rfl⟩
theorem Gro.alloc {a b : World} (h : Gro a b) (o : Obj) : Gro a (b.alloc o) := h.trans ⟨0, #[o], by rw [Go.Sort.alloc_eq_grow]; rfl⟩
theorem Gro.ext {a b : World} (h : Gro a b) : Ext a b := by
  obtain ⟨q, os, rfl⟩ := h
  refine ⟨rfl, rfl, rfl, by simp [Go.Sort.grow], fun k hk => ?_⟩
  rw [Go.Sort.heap_grow_old _ _ (by simpa using hk)]; rfl
/-- How many ones the lowest k bits have. -/
def onesF : Nat → Nat → Nat
  | 0, _ => 0
  | k + 1, n => n % 2 + onesF k (n / 2)
theorem onesF_le : ∀ k n, onesF k n ≤ k
  | 0, _ => Nat.le_refl _
  | k + 1, n => by
    have := onesF_le k (n / 2)
    simp only [onesF]; omega
theorem onesF_split : ∀ j k n, onesF (j + k) n = onesF j n + onesF k (n / 2 ^ j)
  | 0, k, n => by simp [onesF]
  | j + 1, k, n => by
    rw [Nat.add_right_comm, onesF, onesF, onesF_split j k (n / 2), Nat.div_div_eq_div_mul, Nat.pow_succ, Nat.mul_comm (2 ^ j) 2]
    omega
theorem onesF_mod : ∀ k n, onesF k (n % 2 ^ k) = onesF k n
  | 0, n => rfl
  | k + 1, n => by
    rw [onesF, onesF]
    have e1 : n % 2 ^ (k + 1) % 2 = n % 2 := by rw [Nat.pow_succ]; exact Nat.mod_mul_left_mod n (2 ^ k) 2
    have e2 : n % 2 ^ (k + 1) / 2 = n / 2 % 2 ^ k := by
      rw [Nat.pow_succ, Nat.mul_comm, Nat.mod_mul_right_div_self]
    rw [e1, e2, onesF_mod k (n / 2)]
theorem wrap_u16n (n : Int) : IntKind.u16.wrap n = n % 65536 := by simp [IntKind.wrap, IntKind.bits, IntKind.signed]
theorem wrap_u8n (n : Int) : IntKind.u8.wrap n = n % 256 := by simp [IntKind.wrap, IntKind.bits, IntKind.signed]
theorem bits_and_u16_nat (a b : Nat) (ha : a < 65536) (hb : b < 65536) : bits .and .u16 (a : Int) (b : Int) = ((a &&& b : Nat) : Int) := by
  have hx : a &&& b < 2 ^ 16 := Nat.and_lt_two_pow _ (by omega)
  have h1 : (BitVec.ofInt 16 (a : Int)).toNat = a := by
    rw [BitVec.ofInt_natCast, BitVec.toNat_ofNat]; exact Nat.mod_eq_of_lt (by omega)
  have h2 : (BitVec.ofInt 16 (b : Int)).toNat = b := by
    rw [BitVec.ofInt_natCast, BitVec.toNat_ofNat]; exact Nat.mod_eq_of_lt (by omega)
  show IntKind.u16.wrap ((BitVec.ofInt 16 (a : Int) &&& BitVec.ofInt 16 (b : Int)).toNat : Int) = _
  rw [BitVec.toNat_and, h1, h2, wrap_u16n]
  omega
theorem bits_xor_u16_nat (a b : Nat) (ha : a < 65536) (hb : b < 65536) : bits .xor .u16 (a : Int) (b : Int) = ((a ^^^ b : Nat) : Int) := by
  have hx : a ^^^ b < 2 ^ 16 := Nat.xor_lt_two_pow (by omega) (by omega)
  have h1 : (BitVec.ofInt 16 (a : Int)).toNat = a := by
    rw [BitVec.ofInt_natCast, BitVec.toNat_ofNat]; exact Nat.mod_eq_of_lt (by omega)
  have h2 : (BitVec.ofInt 16 (b : Int)).toNat = b := by
    rw [BitVec.ofInt_natCast, BitVec.toNat_ofNat]; exact Nat.mod_eq_of_lt (by omega)
  show IntKind.u16.wrap ((BitVec.ofInt 16 (a : Int) ^^^ BitVec.ofInt 16 (b : Int)).toNat : Int) = _
  rw [BitVec.toNat_xor, h1, h2, wrap_u16n]
  omega
theorem and_255 (x : Nat) (hx : x < 65536) : bits .and .u16 (x : Int) 255 = ((x % 256 : Nat) : Int) := by
  have := bits_and_u16_nat x 255 hx (by omega)
  rw [show ((255 : Nat) : Int) = 255 from rfl] at this
  rw [this, show (255 : Nat) = 2 ^ 8 - 1 from rfl, Nat.and_two_pow_sub_one_eq_mod]
/-- The library's table. -/
noncomputable def tabS : ByteArray := match regOf Tryz.f86 1 with
  | .region _ ops _ => (match ops[2]? with
    | some o => (match o.op with
      | .index _ (.const (.string s)) _ => s
      | _ => ⟨#[]⟩)
    | none => ⟨#[]⟩)
  | _ => ⟨#[]⟩
theorem tabS_all : ((List.range 256).all fun i => tabS[i]? == some (UInt8.ofNat (onesF 8 i))) = true := by kernel_rfl
theorem tabS_at (i : Nat) (h : i < 256) : tabS[i]? = some (UInt8.ofNat (onesF 8 i)) := by
  have := List.all_eq_true.1 tabS_all i (List.mem_range.2 h)
  simpa using this
theorem wp_index {o : Oper} {a : Act} {w : World} {K : Act → World → Prop} {Q : Exit → Act → World → Prop} (t : TypeId) (s : ByteArray) (i : Operand) (ho : o.op = .index t (.const (.string s)) i) (ht : Tryz.prog.underlying t = some .string)
    (q : IntKind) (n : Nat) (hi : a.eval i = .int q (n : Int)) (b : UInt8) (hb : s[n]? = some b) (h : K (a.put o.dst (.int .u8 (b.toNat : Nat))) w) : o.wp Tryz.prog a w K Q := by
  unfold Oper.wp execOp
  have hr : (Instr.index t (.string s) (.int q (n : Int))).run Tryz.prog w = .ok (.int .u8 (b.toNat : Nat)) w := by
    simp [Instr.index, asIntOf, run_underlying ht, Result.andThen, hb]
  have hc : a.eval (.const (.string s)) = .string s := rfl
  simp only [ho, hi, hc, Sem.run_bind, Sem.run_pure, hr, Result.andThen_ok]
  exact h
set_option maxRecDepth 100000 in
set_option maxHeartbeats 4000000 in
theorem oc_law {x y z p q : Nat} {wr : World} (hx : x < 65536) (hy : x / 256 = y) (hz : x % 256 = z) (hp : tabS[y]? = some (UInt8.ofNat p)) (hq : tabS[z]? = some (UInt8.ofNat q)) (hp8 : p ≤ 8) (hq8 : q ≤ 8) {Q : Exit → Act → World → Prop} (aZ : Act) (hsz : aZ.tmps.size = 11) (o0 : aZ.tmps[0]?.getD undef = .int .u16 (x : Int))
    (hend : ∀ (vs : Nat → Value) (w9 : World) (ls9 : Nat → Bool), (∀ j : Nat, j < 9 → ls9 j = true) → (Gro wr w9) → (vs 0 = .int .u16 (x : Int)) → (vs 1 = .int .u16 (y : Int)) → (vs 2 = .int .u8 (p : Int)) → (vs 3 = .int .u16 (x : Int)) → (vs 4 = .int .u16 (z : Int)) → (vs 5 = .int .u8 (q : Int)) → (vs 6 = .int .u8 ((p : Int) + (q : Int))) → (vs 7 = .int .i64 ((p : Int) + (q : Int))) → (vs 8 = .int .i64 ((p : Int) + (q : Int))) → Q .normal (((((((((aZ.put (some 3) (vs 0)).put (some 4) (vs 1)).put (some 5) (vs 2)).put (some 6) (vs 3)).put (some 7) (vs 4)).put (some 8) (vs 5)).put (some 9) (vs 6)).put (some 10) (vs 7)).put (some 2) (vs 8)) w9) : (regOf Tryz.f86 1).wp Tryz.prog Q aZ wr := by
  conv => arg 2; whnf
  refine wp_region_said3 (fun i v wz => match i with
    | 0 => v = .int .u16 (x : Int)
    | 1 => v = .int .u16 (y : Int)
    | 2 => v = .int .u8 (p : Int)
    | 3 => v = .int .u16 (x : Int)
    | 4 => v = .int .u16 (z : Int)
    | 5 => v = .int .u8 (q : Int)
    | 6 => v = .int .u8 ((p : Int) + (q : Int))
    | 7 => v = .int .i64 ((p : Int) + (q : Int))
    | _ => v = .int .i64 ((p : Int) + (q : Int))) (fun ls vs wz => Gro wr wz) (by kernel_rfl) (by kernel_rfl) (by rw [hsz]; kernel_rfl) ?_ ?_ ?_
  · exact (Gro.refl _).drew
  · refine ⟨?_, ?_, ?_, ?_, ?_, ?_, ?_, ?_, ?_, trivial⟩
    · intro ls vs a w1 hi hJ hold hdep hdon hcl K hK
      have q0 : a.tmps[0]?.getD undef = .int .u16 (x : Int) := (hold 0 (by kernel_rfl)).trans o0
      rw [if_pos (by rfl)]
      clear hold hdep hend hdon hcl o0
      go_simp
      exact hK _ _ (fun _ _ _ h => h) hJ rfl
    · intro ls vs a w1 hi hJ hold hdep hdon hcl K hK
      have q3 : a.tmps[3]?.getD undef = .int .u16 (x : Int) := (hdep 0 3 (by kernel_rfl) (by kernel_rfl)).2.1.trans (hdep 0 3 (by kernel_rfl) (by kernel_rfl)).2.2
      rw [if_pos (by rfl)]
      clear hold hdep hend hdon hcl o0
      go_simp
      rw [show (x : Int) / 256 = (y : Int) by omega]
      exact hK _ _ (fun _ _ _ h => h) hJ rfl
    · intro ls vs a w1 hi hJ hold hdep hdon hcl K hK
      have q4 : a.tmps[4]?.getD undef = .int .u16 (y : Int) := (hdep 1 4 (by kernel_rfl) (by kernel_rfl)).2.1.trans (hdep 1 4 (by kernel_rfl) (by kernel_rfl)).2.2
      clear hold hdep hend hdon o0
      rw [if_pos (by rfl)]
      refine wp_index 9 tabS (.tmp 4) (by kernel_rfl) Tryz.underlying9 .u16 y (by simpa [Act.eval, Array.getD_eq_getD_getElem?] using q4) _ hp ?_
      rw [show (UInt8.ofNat p).toNat = p by simp; omega]
      exact hK _ _ (fun _ _ _ h => h) hJ rfl
    · intro ls vs a w1 hi hJ hold hdep hdon hcl K hK
      have q0 : a.tmps[0]?.getD undef = .int .u16 (x : Int) := (hold 0 (by kernel_rfl)).trans o0
      rw [if_pos (by rfl)]
      clear hold hdep hend hdon hcl o0
      go_simp
      exact hK _ _ (fun _ _ _ h => h) hJ rfl
    · intro ls vs a w1 hi hJ hold hdep hdon hcl K hK
      have q6 : a.tmps[6]?.getD undef = .int .u16 (x : Int) := (hdep 3 6 (by kernel_rfl) (by kernel_rfl)).2.1.trans (hdep 3 6 (by kernel_rfl) (by kernel_rfl)).2.2
      rw [if_pos (by rfl)]
      clear hold hdep hend hdon hcl o0
      go_simp
      rw [and_255 x hx, hz]
      exact hK _ _ (fun _ _ _ h => h) hJ rfl
    · intro ls vs a w1 hi hJ hold hdep hdon hcl K hK
      have q7 : a.tmps[7]?.getD undef = .int .u16 (z : Int) := (hdep 4 7 (by kernel_rfl) (by kernel_rfl)).2.1.trans (hdep 4 7 (by kernel_rfl) (by kernel_rfl)).2.2
      clear hold hdep hend hdon o0
      rw [if_pos (by rfl)]
      refine wp_index 9 tabS (.tmp 7) (by kernel_rfl) Tryz.underlying9 .u16 z (by simpa [Act.eval, Array.getD_eq_getD_getElem?] using q7) _ hq ?_
      rw [show (UInt8.ofNat q).toNat = q by simp; omega]
      exact hK _ _ (fun _ _ _ h => h) hJ rfl
    · intro ls vs a w1 hi hJ hold hdep hdon hcl K hK
      have q5 : a.tmps[5]?.getD undef = .int .u8 (p : Int) := (hdep 2 5 (by kernel_rfl) (by kernel_rfl)).2.1.trans (hdep 2 5 (by kernel_rfl) (by kernel_rfl)).2.2
      have q8 : a.tmps[8]?.getD undef = .int .u8 (q : Int) := (hdep 5 8 (by kernel_rfl) (by kernel_rfl)).2.1.trans (hdep 5 8 (by kernel_rfl) (by kernel_rfl)).2.2
      rw [if_pos (by rfl)]
      clear hold hdep hend hdon hcl o0
      go_simp
      rw [wrap_u8n, show ((p : Int) + (q : Int)) % 256 = (p : Int) + (q : Int) by omega]
      exact hK _ _ (fun _ _ _ h => h) hJ rfl
    · intro ls vs a w1 hi hJ hold hdep hdon hcl K hK
      have q9 : a.tmps[9]?.getD undef = .int .u8 ((p : Int) + (q : Int)) := (hdep 6 9 (by kernel_rfl) (by kernel_rfl)).2.1.trans (hdep 6 9 (by kernel_rfl) (by kernel_rfl)).2.2
      rw [if_pos (by rfl)]
      clear hold hdep hend hdon hcl o0
      go_simp
      rw [IntWalk.i64_in _ (by omega)]
      exact hK _ _ (fun _ _ _ h => h) hJ rfl
    · intro ls vs a w1 hi hJ hold hdep hdon hcl K hK
      have q10 : a.tmps[10]?.getD undef = .int .i64 ((p : Int) + (q : Int)) := (hdep 7 10 (by kernel_rfl) (by kernel_rfl)).2.1.trans (hdep 7 10 (by kernel_rfl) (by kernel_rfl)).2.2
      rw [if_pos (by rfl)]
      clear hold hdep hend hdon hcl o0
      go_simp
      exact hK _ _ (fun _ _ _ h => h) hJ rfl
  · intro vs w9 ls9 hl9 hJ9 hφ
    have e0 := hφ 0 (by kernel_rfl)
    have e1 := hφ 1 (by kernel_rfl)
    have e2 := hφ 2 (by kernel_rfl)
    have e3 := hφ 3 (by kernel_rfl)
    have e4 := hφ 4 (by kernel_rfl)
    have e5 := hφ 5 (by kernel_rfl)
    have e6 := hφ 6 (by kernel_rfl)
    have e7 := hφ 7 (by kernel_rfl)
    have e8 := hφ 8 (by kernel_rfl)
    have hq := hend vs w9 ls9 hl9 hJ9 e0 e1 e2 e3 e4 e5 e6 e7 e8
    simp only [Act.put] at hq
    simp only [putAll, Act.put]
    exact hq
/-- How many ones a word of 16 bits has. -/
def ones (x : Nat) : Nat := onesF 16 x
set_option maxHeartbeats 1000000 in
theorem ones_gro (x : Nat) (w : World) (hx : x < 65536) : Calls Tryz.prog 86 #[.int .u16 (x : Int)] w (fun e w' => e = .returned (.int .i64 (ones x : Int)) ∧ Gro w w') := by
  have hr0 := Ext.refl w
  obtain ⟨y, hy⟩ : ∃ y, x / 256 = y := ⟨_, rfl⟩
  obtain ⟨z, hz⟩ : ∃ z, x % 256 = z := ⟨_, rfl⟩
  have hp := tabS_at y (by omega)
  have hq := tabS_at z (by omega)
  have hp8 := onesF_le 8 y
  have hq8 := onesF_le 8 z
  have HO : Hid (ones x = onesF 8 y + onesF 8 z) := by
    rw [Hid, ones, onesF_split 8 8 x, ← onesF_mod 8 x]
    rw [show (2 : Nat) ^ 8 = 256 from rfl, hy, hz, Nat.add_comm]
  obtain ⟨p, hpe⟩ : ∃ p, p = onesF 8 y := ⟨_, rfl⟩
  obtain ⟨q, hqe⟩ : ∃ q, q = onesF 8 z := ⟨_, rfl⟩
  rw [← hpe] at hp hp8 HO
  rw [← hqe] at hq hq8 HO
  rw [HO.out]
  clear hpe hqe HO
  go_enter Tryz.func86, Tryz.ntmps86
  go_upto_region 1 with fail
  refine oc_law hx hy hz hp hq hp8 hq8 _ (by rfl) rfl ?_
  intro vs w9 ls9 hl9 hJ9 e0 e1 e2 e3 e4 e5 e6 e7 e8
  simp only [Act.put, List.setIfInBounds_toArray, List.set_cons_zero, List.set_cons_succ]
  rw [e0, e1, e2, e3, e4, e5, e6, e7, e8]
  have hx9 : Gro w w9 := hJ9
  clear hJ9 e0 e1 e2 e3 e4 e5 e6 e7 e8
  go_wp2_with (fail)
  go_ret
  exact ⟨by rw [Int.natCast_add]; rfl, hx9⟩
theorem ones_any (x : Nat) (w : World) (hx : x < 65536) : Calls Tryz.prog 86 #[.int .u16 (x : Int)] w (Ret (.int .i64 (ones x : Int)) w) := (ones_gro x w hx).mono fun _ _ h => ⟨h.1, h.2.ext⟩
end Go.Proofs.YtplbofhgmflnlaaGreat
