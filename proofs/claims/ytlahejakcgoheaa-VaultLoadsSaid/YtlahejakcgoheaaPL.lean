/-
  Texts merged: Plain, Plain2, Plain3, Q1, Q2.
-/
section
/-
  Plain words of chapter 11 (vault): digests. No program in sight.
-/
namespace Go.Proofs.Ytlahejakcgoheaa
def p61 : Nat := 2305843009213693951
/-- The digest of no bytes. -/
def nh (s : Nat) : Nat := s % p61
/-- A digest goes on with a byte. -/
def hb (h b : Nat) : Nat := (h * 257 + b + 1) % p61
theorem nh_lt (s : Nat) : nh s < p61 := Nat.mod_lt _ (by decide)
theorem hb_lt (h b : Nat) : hb h b < p61 := Nat.mod_lt _ (by decide)
/-- The bytes of a digest. -/
def hbs (h : Nat) (l : List UInt8) : Nat := l.foldl (fun h b => hb h b.toNat) h
theorem hbs_nil (h : Nat) : hbs h [] = h := rfl
theorem hbs_cons (h : Nat) (b : UInt8) (l : List UInt8) : hbs h (b :: l) = hbs (hb h b.toNat) l := rfl
theorem hbs_append (h : Nat) (l m : List UInt8) : hbs h (l ++ m) = hbs (hbs h l) m := by simp [hbs, List.foldl_append]
theorem hbs_lt (h : Nat) (l : List UInt8) (hh : h < p61) : hbs h l < p61 := by
  induction l generalizing h with
  | nil => exact hh
  | cons b l ih => exact ih _ (hb_lt _ _)
/-! ### Div64 at the divisor 2^61 - 1 -/
/-- What the last division leaves, as the code reckons it: the numerator hi * 2^64 + lo, hi at most 32. -/
theorem div_mod (n q r : Nat) (h : n = q * p61 + r) (hr : r < p61) : n % p61 = r := by
  rw [h, Nat.mul_comm, Nat.mul_add_mod, Nat.mod_eq_of_lt hr]
/-- The stream of a key. -/
def nxt (k : Nat) : Nat := (k * 6364136223846793005 + 1442695040888963407) % 18446744073709551616
theorem nxt_lt (k : Nat) : nxt k < 18446744073709551616 := Nat.mod_lt _ (by decide)
def ciph : Nat → List UInt8 → List UInt8
  | _, [] => []
  | k, b :: l => (b ^^^ UInt8.ofNat (nxt k / 72057594037927936)) :: ciph (nxt k) l
theorem ciph_len (k : Nat) (l : List UInt8) : (ciph k l).length = l.length := by
  induction l generalizing k with
  | nil => rfl
  | cons b l ih => simp [ciph, ih]
theorem ciph_twice (k : Nat) (l : List UInt8) : ciph k (ciph k l) = l := by
  induction l generalizing k with
  | nil => rfl
  | cons b l ih => simp only [ciph, ih]; rw [UInt8.xor_assoc, UInt8.xor_self, UInt8.xor_zero]
/-- The last k bytes of a number, the highest first. -/
def numB (x : Nat) : Nat → List UInt8
  | 0 => []
  | k + 1 => UInt8.ofNat (x / 2 ^ (8 * k)) :: numB x k
theorem numB_len (x : Nat) : ∀ k, (numB x k).length = k
  | 0 => rfl
  | k + 1 => by simp [numB, numB_len x k]
/-- A link. -/
structure Lk where
  op : Nat
  cu : ByteArray
  ki : ByteArray
  nu : Int
  ve : Int
  da : Int
  un : Int
  bo : List UInt8
  tag : Nat
  ch : Nat
/-- A number as 64 bits without a sign. -/
def uw (n : Int) : Nat := (n % 18446744073709551616).toNat
theorem uw_lt (n : Int) : uw n < 18446744073709551616 := by unfold uw; omega
/-- The seal key of a link. -/
def sk0 (key : Nat) (l : Lk) : Nat := hbs (hbs (hb (nh key) l.op) (numB (uw l.nu) 4)) (numB (uw l.ve) 4)
def sealK (key : Nat) (l : Lk) : Nat := if l.op = 5 then hbs (sk0 key l) l.ki.data.toList else sk0 key l
theorem sk0_lt (key : Nat) (l : Lk) : sk0 key l < p61 := hbs_lt _ _ (hbs_lt _ _ (hb_lt _ _))
theorem sealK_lt (key : Nat) (l : Lk) : sealK key l < p61 := by
  unfold sealK; split
  · exact hbs_lt _ _ (sk0_lt _ _)
  · exact sk0_lt _ _
/-- The digest of a link behind another one. -/
def chainN (before : Nat) (l : Lk) : Nat :=
  hbs (hbs (hbs (hbs (hbs (hbs (hb (hbs (hb (hbs (hb (nh before) l.op) l.cu.data.toList) 0) l.ki.data.toList) 0) (numB (uw l.nu) 4)) (numB (uw l.ve) 4)) (numB (uw l.da) 4)) (numB (uw l.un) 4)) (numB l.tag 8)) l.bo
/-- How long a padded text is. -/
def padN (n : Nat) : Nat := (n + 33) / 32 * 32
theorem padN_ge (n : Nat) : n + 2 ≤ padN n := by unfold padN; omega
theorem padN_32 (n : Nat) : 32 ≤ padN n := by unfold padN; omega
theorem padN_lt (n : Nat) : padN n ≤ n + 33 := by unfold padN; omega
theorem padN_mod (n : Nat) : padN n % 32 = 0 := by unfold padN; omega
/-- The padded form of a text. -/
def padB (t : List UInt8) : List UInt8 := numB t.length 2 ++ t ++ List.replicate (padN t.length - (t.length + 2)) 0
theorem padB_len (t : List UInt8) : (padB t).length = padN t.length := by
  have := padN_ge t.length
  simp [padB, numB_len]; omega
/-- The text of a padded form. -/
def unpN (b : List UInt8) : Nat := (b.getD 0 0).toNat * 256 + (b.getD 1 0).toNat
def unpOk (b : List UInt8) : Bool := decide (32 ≤ b.length) && (decide (unpN b ≤ 2000) && (decide (unpN b + 2 ≤ b.length) && (decide (b.length - unpN b - 2 < 32) && (b.drop (unpN b + 2)).all (· == 0))))
def unpT (b : List UInt8) : List UInt8 := if unpOk b then (b.drop 2).take (unpN b) else []
/-- A link with its Body and Tag. -/
def sealedL (key : Nat) (l : Lk) (t : List UInt8) : Lk := { l with bo := ciph (sealK key l) (padB t), tag := hbs (nh (sealK key l)) (ciph (sealK key l) (padB t)) }
/-- The text of a link, whether its Tag fits, whether its Body does. -/
def fitsL (key : Nat) (l : Lk) : Bool := l.tag == hbs (nh (sealK key l)) l.bo
def textL (key : Nat) (l : Lk) : List UInt8 := unpT (ciph (sealK key l) l.bo)
def okL (key : Nat) (l : Lk) : Bool := unpOk (ciph (sealK key l) l.bo)
/-- The first link whose Chain is wrong, or -1. -/
def checkI : Nat → Nat → List Lk → Int
  | _, _, [] => -1
  | before, k, l :: ls => if chainN before l = l.ch then checkI l.ch (k + 1) ls else k
end Go.Proofs.Ytlahejakcgoheaa
end
section
/-
  Plain words of chapter 11: names, passphrases, what a link may be.
-/
namespace Go.Proofs.Ytlahejakcgoheaa
/-- Whether a byte may stand at a place of a name. -/
def okChar (i c : Nat) : Bool := (decide (97 ≤ c) && decide (c ≤ 122)) || (i != 0 && (c == 95 || (decide (48 ≤ c) && decide (c ≤ 57))))
def nameCh (l : List UInt8) : Bool := (List.range l.length).all fun i => okChar i (l.getD i 0).toNat
def nameB (s : ByteArray) : Bool := nameCh s.data.toList && (s.size != 0 && decide (s.size ≤ 20))
def passB (s : ByteArray) : Bool := s.size != 0 && (decide (s.size ≤ 40) && !(s.data.toList.contains 0))
theorem nameCh_false (l : List UInt8) (k : Nat) (hk : k < l.length) (h : okChar k (l.getD k 0).toNat = false) : nameCh l = false := by
  unfold nameCh
  rw [List.all_eq_false]
  exact ⟨k, List.mem_range.2 hk, by rw [h]; simp⟩
theorem nameCh_true (l : List UInt8) (h : ∀ k, k < l.length → okChar k (l.getD k 0).toNat = true) : nameCh l = true := by
  unfold nameCh
  rw [List.all_eq_true]
  exact fun k hk => h k (List.mem_range.1 hk)
/-- Whether the fields that a link does not have are 0 or empty. -/
def plainB (l : Lk) : Bool :=
  if l.op = 1 then l.ki.size == 0 && (l.nu == 0 && (l.ve == 0 && (l.da == 0 && (l.un == 0 && l.bo.length == 0))))
  else if l.op = 2 then l.ki.size == 0 && (l.nu == 0 && (l.ve == 0 && (l.cu.size == 0 && (l.un == 0 && (l.bo.length == 0 && l.tag == 0)))))
  else if l.op = 3 then true
  else if l.op = 4 then l.ki.size == 0 && l.un == 0
  else if l.op = 5 then l.un == 0
  else false
end Go.Proofs.Ytlahejakcgoheaa
end
section
/-
  Plain words of chapter 11: a vault, and what a link does to it.
-/
namespace Go.Proofs.Ytlahejakcgoheaa
/-- A customer. -/
structure PC where
  name : ByteArray
  proof : Nat
  recs : List (List Lk)
  made : Int
  shares : List ((Int × ByteArray) × Lk)
/-- A vault. -/
structure PV where
  cus : List PC
  day : Int
  adv : Int
  chain : List Lk
def PV.new : PV := ⟨[], 0, 0, []⟩
def PV.find (S : PV) (n : ByteArray) : Option PC := S.cus.find? fun c => decide (c.name = n)
/-- The last day of a record. -/
def untilR (r : List Lk) : Int := match r with | [] => 0 | l :: _ => l.un
/-- A record that has not expired, and the error. -/
def findR (c : PC) (number day : Int) : List Lk × Int :=
  if number < 1 ∨ (c.recs.length : Int) < number then ([], 3)
  else if untilR (c.recs.getD (number - 1).toNat []) < day then ([], 111)
  else (c.recs.getD (number - 1).toNat [], 0)
/-- Whether a call could add a link. -/
def couldB (S : PV) (l : Lk) : Bool :=
  if plainB l then
    if l.op = 1 then nameB l.cu && ((S.find l.cu).isNone && decide ((S.cus.length : Int) < 20))
    else if l.op = 2 then decide (S.day < l.da) && (decide (l.da ≤ 1000000) && decide (S.adv < 2000))
    else match S.find l.cu with
      | none => false
      | some c =>
        if l.da = S.day ∧ l.bo.length ≠ 0 ∧ l.bo.length ≤ 2016 ∧ l.bo.length % 32 = 0 then
          if l.op = 3 then (l.nu == (c.recs.length : Int) + 1) && (decide (l.nu ≤ 30) && ((l.ve == 1) && (nameB l.ki && (decide (S.day ≤ l.un) && decide (l.un ≤ 1000000)))))
          else if (findR c l.nu S.day).2 = 0 then
            if l.op = 4 then (l.ve == ((findR c l.nu S.day).1.length : Int) + 1) && decide (l.ve ≤ 20)
            else (l.ve == ((findR c l.nu S.day).1.length : Int)) && ((S.find l.ki).isSome && (!(decide (l.ki = l.cu)) && decide (c.made < 20)))
          else false
        else false
  else false
/-- A share is laid, in the place of an elder one. -/
def putShare (k : Int × ByteArray) (l : Lk) : List ((Int × ByteArray) × Lk) → List ((Int × ByteArray) × Lk)
  | [] => [(k, l)]
  | p :: ps => if p.1 = k then (k, l) :: ps else p :: putShare k l ps
/-- What a link does to its customer. -/
def putC (l : Lk) (c : PC) : PC :=
  if l.op = 3 then { c with recs := c.recs ++ [[l]] }
  else if l.op = 4 then { c with recs := c.recs.set (l.nu - 1).toNat (c.recs.getD (l.nu - 1).toNat [] ++ [l]) }
  else { c with made := c.made + 1, shares := putShare (l.nu, l.ki) l c.shares }
/-- What a link does to a vault. -/
def putS (S : PV) (l : Lk) : PV :=
  if l.op = 1 then { S with cus := S.cus ++ [⟨l.cu, l.tag, [], 0, []⟩], chain := S.chain ++ [l] }
  else if l.op = 2 then { S with day := l.da, adv := S.adv + 1, chain := S.chain ++ [l] }
  else { S with cus := S.cus.map fun c => if c.name = l.cu then putC l c else c, chain := S.chain ++ [l] }
/-- What holds of every vault. -/
structure PCOk (c : PC) : Prop where
  rl : c.recs.length ≤ 30
  rr : ∀ r ∈ c.recs, r ≠ [] ∧ r.length ≤ 20
  m0 : 0 ≤ c.made
  m1 : c.made ≤ 20
  sl : (c.shares.length : Int) ≤ c.made
structure PVOk (S : PV) : Prop where
  nd : (S.cus.map PC.name).Nodup
  cl : S.cus.length ≤ 20
  cs : ∀ c ∈ S.cus, PCOk c
  d0 : 0 ≤ S.day
  d1 : S.day ≤ 1000000
  a0 : 0 ≤ S.adv
  a1 : S.adv ≤ 2000
end Go.Proofs.Ytlahejakcgoheaa
end
section
/-
  Plain words: digests differ.
-/
namespace Go.Proofs.Ytlahejakcgoheaa
/-- The digest's number, not yet modulo. -/
def pv (h : Int) (xs : List UInt8) : Int := xs.foldl (fun h b => h * 257 + b.toNat + 1) h
theorem pv_nil (h : Int) : pv h [] = h := rfl
theorem pv_cons (h : Int) (b : UInt8) (xs : List UInt8) : pv h (b :: xs) = pv (h * 257 + b.toNat + 1) xs := rfl
theorem pv_append (h : Int) (xs ys : List UInt8) : pv h (xs ++ ys) = pv (pv h xs) ys := by simp [pv, List.foldl_append]
theorem pv_lin (xs : List UInt8) : ∀ h : Int, pv h xs = h * 257 ^ xs.length + pv 0 xs := by
  induction xs with
  | nil => intro h; simp [pv]
  | cons b xs ih =>
    intro h
    rw [pv_cons, pv_cons, ih (h * 257 + b.toNat + 1), ih (0 * 257 + b.toNat + 1), List.length_cons, Int.pow_succ]
    generalize (257 : Int) ^ xs.length = N
    simp only [Int.add_mul, Int.zero_mul, Int.zero_add, Int.mul_assoc, Int.mul_comm 257 N]
    omega
theorem pow_pos (n : Nat) : (1 : Int) ≤ 257 ^ n := by
  induction n with
  | zero => simp
  | succ n ih => rw [Int.pow_succ]; omega
theorem pv_bound (xs : List UInt8) : 0 ≤ pv 0 xs ∧ pv 0 xs < 257 ^ xs.length := by
  induction xs with
  | nil => simp [pv]
  | cons b xs ih =>
    rw [pv_cons, pv_lin, List.length_cons, Int.pow_succ]
    have hb : b.toNat < 256 := UInt8.toNat_lt b
    have hN := pow_pos xs.length
    generalize (257 : Int) ^ xs.length = N at *
    have h1 : (0 * 257 + (b.toNat : Int) + 1) * N ≤ 256 * N := Int.mul_le_mul_of_nonneg_right (by omega) (by omega)
    have h2 : 0 ≤ (0 * 257 + (b.toNat : Int) + 1) * N := Int.mul_nonneg (by omega) (by omega)
    have h3 : N * 257 = 256 * N + N := by omega
    omega
theorem pv_inj : ∀ (xs ys : List UInt8), xs.length = ys.length → pv 0 xs = pv 0 ys → xs = ys
  | [], [], _, _ => rfl
  | b :: xs, c :: ys, hl, h => by
    simp only [List.length_cons, Nat.add_right_cancel_iff] at hl
    rw [pv_cons, pv_cons, pv_lin xs, pv_lin ys, hl] at h
    have h1 := pv_bound xs
    have h2 := pv_bound ys
    rw [hl] at h1
    have hN := pow_pos ys.length
    have hbc : b.toNat = c.toNat := by
      generalize (257 : Int) ^ ys.length = N at *
      generalize pv 0 xs = u at *
      generalize pv 0 ys = v at *
      refine Classical.byContradiction fun hn => ?_
      rcases Nat.lt_or_gt_of_ne hn with hlt | hlt
      · have : (0 * 257 + (b.toNat : Int) + 1) * N + N ≤ (0 * 257 + (c.toNat : Int) + 1) * N := by
          have := Int.mul_le_mul_of_nonneg_right (a := 0 * 257 + (b.toNat : Int) + 1 + 1) (b := 0 * 257 + (c.toNat : Int) + 1) (c := N) (by omega) (by omega)
          rw [Int.add_mul, Int.one_mul] at this
          exact this
        omega
      · have : (0 * 257 + (c.toNat : Int) + 1) * N + N ≤ (0 * 257 + (b.toNat : Int) + 1) * N := by
          have := Int.mul_le_mul_of_nonneg_right (a := 0 * 257 + (c.toNat : Int) + 1 + 1) (b := 0 * 257 + (b.toNat : Int) + 1) (c := N) (by omega) (by omega)
          rw [Int.add_mul, Int.one_mul] at this
          exact this
        omega
    rw [hbc] at h
    have h3 : pv 0 xs = pv 0 ys := by omega
    rw [UInt8.toNat_inj.1 hbc, pv_inj xs ys hl h3]
theorem hbs_pv (xs : List UInt8) : ∀ (h : Nat) (g : Int), (h : Int) % p61 = g % p61 → (hbs h xs : Int) % p61 = pv g xs % p61 := by
  induction xs with
  | nil => intro h g e; exact e
  | cons b xs ih =>
    intro h g e
    rw [hbs_cons, pv_cons]
    refine ih _ _ ?_
    unfold hb p61 at *
    omega
/-- Modulo the prime a power of 257 can be left out. -/
theorem dvd_pow (d : Int) (n : Nat) (h : (p61 : Int) ∣ d * 257 ^ n) : (p61 : Int) ∣ d := by
  induction n generalizing d with
  | zero => simpa using h
  | succ n ih =>
    rw [Int.pow_succ, Int.mul_comm ((257 : Int) ^ n), ← Int.mul_assoc] at h
    have h1 := ih (d * 257) h
    unfold p61 at *
    omega
/-- A burst of up to 7 bytes changes the digest. -/
theorem hbs_burst (s : Nat) (A B B' C : List UInt8) (hl : B.length = B'.length) (h7 : B.length ≤ 7) (h : hbs (nh s) (A ++ (B ++ C)) = hbs (nh s) (A ++ (B' ++ C))) : B = B' := by
  have e1 := hbs_pv (A ++ (B ++ C)) (nh s) (nh s : Int) rfl
  have e2 := hbs_pv (A ++ (B' ++ C)) (nh s) (nh s : Int) rfl
  rw [h, e2] at e1
  rw [pv_append, pv_append, pv_append, pv_append, pv_lin C, pv_lin C (pv _ B), pv_lin B, pv_lin B', hl] at e1
  refine pv_inj B B' hl ?_
  have b1 := pv_bound B
  have b2 := pv_bound B'
  rw [hl] at b1
  have hN : (257 : Int) ^ B'.length ≤ 257 ^ 7 := by
    have : B'.length ≤ 7 := by omega
    match hq : B'.length, this with
    | 0, _ => decide
    | 1, _ => decide
    | 2, _ => decide
    | 3, _ => decide
    | 4, _ => decide
    | 5, _ => decide
    | 6, _ => decide
    | 7, _ => decide
    | n + 8, hh => omega
  have hd : (p61 : Int) ∣ (pv 0 B' - pv 0 B) * 257 ^ C.length := by
    have e3 := Int.emod_eq_emod_iff_emod_sub_eq_zero.1 e1
    refine Int.dvd_of_emod_eq_zero (Eq.trans ?_ e3)
    refine congrArg (fun z : Int => z % (p61 : Int)) ?_
    rw [Int.sub_mul, Int.add_mul, Int.add_mul]
    omega
  have hd2 := dvd_pow _ _ hd
  generalize (257 : Int) ^ B'.length = N at *
  have h77 : (257 : Int) ^ 7 = 74051159531521793 := by decide
  rw [h77] at hN
  unfold p61 at hd2
  omega
theorem hbs_start (s t : Nat) (xs : List UInt8) : hbs (nh s) xs = hbs (nh t) xs ↔ s % p61 = t % p61 := by
  constructor
  · intro h
    have e1 := hbs_pv xs (nh s) (nh s : Int) rfl
    have e2 := hbs_pv xs (nh t) (nh t : Int) rfl
    rw [h, e2, pv_lin xs, pv_lin xs (nh s : Int)] at e1
    have hd : (p61 : Int) ∣ ((nh t : Int) - nh s) * 257 ^ xs.length := by
      have e3 := Int.emod_eq_emod_iff_emod_sub_eq_zero.1 e1
      refine Int.dvd_of_emod_eq_zero (Eq.trans ?_ e3)
      refine congrArg (fun z : Int => z % (p61 : Int)) ?_
      rw [Int.sub_mul]
      omega
    have hd2 := dvd_pow _ _ hd
    have h1 := nh_lt s
    have h2 := nh_lt t
    show nh s = nh t
    unfold p61 at *
    omega
  · intro h
    have : nh s = nh t := h
    rw [this]
end Go.Proofs.Ytlahejakcgoheaa
end
section
/-
  Plain words: a burst of bytes.
-/
namespace Go.Proofs.Ytlahejakcgoheaa
/-- Bytes with k bytes changed from a place on. -/
def xorK (xs bs : List UInt8) (at0 : Nat) : Nat → List UInt8
  | 0 => xs
  | k + 1 => if at0 + k < xs.length then (xorK xs bs at0 k).set (at0 + k) ((xorK xs bs at0 k).getD (at0 + k) 0 ^^^ bs.getD k 0) else xorK xs bs at0 k
/-- Whether one of them is another one. -/
def chgK (xs bs : List UInt8) (at0 : Nat) : Nat → Bool
  | 0 => false
  | k + 1 => chgK xs bs at0 k || (decide (at0 + k < xs.length) && bs.getD k 0 != 0)
theorem xorK_len (xs bs : List UInt8) (at0 k : Nat) : (xorK xs bs at0 k).length = xs.length := by
  induction k with
  | zero => rfl
  | succ k ih =>
    unfold xorK
    split
    · rw [List.length_set, ih]
    · exact ih
theorem xorK_get (xs bs : List UInt8) (at0 : Nat) : ∀ k i, (xorK xs bs at0 k)[i]? = if at0 ≤ i ∧ i < at0 + k then xs[i]?.map (· ^^^ bs.getD (i - at0) 0) else xs[i]?
  | 0, i => by rw [if_neg (by omega)]; rfl
  | k + 1, i => by
    have ih := xorK_get xs bs at0 k
    unfold xorK
    split
    · rename_i q
      rw [List.getElem?_set]
      by_cases e : at0 + k = i
      · subst e
        rw [if_pos rfl, if_pos (by rw [xorK_len]; exact q), if_pos (by omega)]
        have h1 := ih (at0 + k)
        rw [if_neg (by omega)] at h1
        rw [List.getD_eq_getElem?_getD, h1, List.getElem?_eq_getElem q]
        simp
      · rw [if_neg e, ih i]
        by_cases q2 : at0 ≤ i ∧ i < at0 + k
        · rw [if_pos q2, if_pos (by omega)]
        · rw [if_neg q2, if_neg (by omega)]
    · rename_i q
      rw [ih i]
      by_cases q2 : at0 ≤ i ∧ i < at0 + k
      · rw [if_pos q2, if_pos (by omega)]
      · rw [if_neg q2]
        by_cases q3 : at0 ≤ i ∧ i < at0 + (k + 1)
        · rw [if_pos q3, List.getElem?_eq_none (by omega)]; rfl
        · rw [if_neg q3]
theorem xor_same {a b : UInt8} (h : a ^^^ b = a) : b = 0 := by
  have : a ^^^ (a ^^^ b) = a ^^^ a := by rw [h]
  rwa [← UInt8.xor_assoc, UInt8.xor_self, UInt8.zero_xor] at this
theorem chgK_iff (xs bs : List UInt8) (at0 : Nat) : ∀ k, chgK xs bs at0 k = true ↔ ∃ j, j < k ∧ at0 + j < xs.length ∧ bs.getD j 0 ≠ 0
  | 0 => by simp [chgK]
  | k + 1 => by
    simp only [chgK, Bool.or_eq_true, chgK_iff xs bs at0 k, Bool.and_eq_true, decide_eq_true_eq, bne_iff_ne]
    constructor
    · rintro (⟨j, h1, h2⟩ | ⟨h1, h2⟩)
      · exact ⟨j, by omega, h2⟩
      · exact ⟨k, by omega, h1, h2⟩
    · rintro ⟨j, h1, h2, h3⟩
      by_cases e : j = k
      · subst e; exact .inr ⟨h2, h3⟩
      · exact .inl ⟨j, by omega, h2, h3⟩
theorem burst_law (s : Nat) (xs bs : List UInt8) (at0 k : Nat) (hk : k ≤ 7) : (hbs (nh s) xs ≠ hbs (nh s) (xorK xs bs at0 k)) ↔ chgK xs bs at0 k = true := by
  have hlen := xorK_len xs bs at0 k
  have hget := xorK_get xs bs at0 k
  generalize hys : xorK xs bs at0 k = ys at *
  have hsame : ys = xs ↔ ¬ chgK xs bs at0 k = true := by
    rw [chgK_iff]
    constructor
    · rintro rfl ⟨j, h1, h2, h3⟩
      have := hget (at0 + j)
      rw [if_pos (by omega), List.getElem?_eq_getElem h2] at this
      simp only [Option.map_some, Option.some.injEq, Nat.add_sub_cancel_left] at this
      exact h3 (xor_same this.symm)
    · intro h
      apply List.ext_getElem?
      intro i
      rw [hget i]
      split
      · rename_i q
        rcases Nat.lt_or_ge i xs.length with hi | hi
        · have : bs.getD (i - at0) 0 = 0 := Classical.byContradiction fun hn => h ⟨i - at0, by omega, by omega, hn⟩
          rw [this, List.getElem?_eq_getElem hi]
          simp
        · rw [List.getElem?_eq_none hi]; rfl
      · rfl
  constructor
  · intro h
    refine Classical.byContradiction fun hn => h ?_
    rw [hsame.2 hn]
  · intro hc heq
    refine hsame.1 ?_ hc
    have ht : ys.take at0 = xs.take at0 := by
      apply List.ext_getElem?
      intro i
      rw [List.getElem?_take, List.getElem?_take]
      split
      · rw [hget i, if_neg (by omega)]
      · rfl
    have hd : ys.drop (at0 + 7) = xs.drop (at0 + 7) := by
      apply List.ext_getElem?
      intro i
      rw [List.getElem?_drop, List.getElem?_drop, hget, if_neg (by omega)]
    have hx : ∀ zs : List UInt8, zs = zs.take at0 ++ ((zs.drop at0).take 7 ++ zs.drop (at0 + 7)) := fun zs => by
      rw [← List.drop_drop, List.take_append_drop, List.take_append_drop]
    have e1 := hx xs
    have e2 := hx ys
    rw [ht, hd] at e2
    have hb := hbs_burst s (xs.take at0) ((xs.drop at0).take 7) ((ys.drop at0).take 7) (xs.drop (at0 + 7)) (by simp [hlen]) (by simp; omega) (by rw [← e1, ← e2]; exact heq)
    rw [e2, ← hb, ← e1]
end Go.Proofs.Ytlahejakcgoheaa
end
