/-
  Plain words: a changed Body does not open, even with another key of the same proof (a reckoning over the keys that have one proof).
-/
import Derived.Test.YtlahejakcgoheaaWD
set_option linter.unusedVariables false
set_option linter.unusedSimpArgs false
namespace Go.Proofs.Ytlahejakcgoheaa
/-! ### digits -/
/-- Digits, the lowest first. -/
def valD (B : Int) : List Int → Int
  | [] => 0
  | e :: es => e + B * valD B es
/-- The bound of a digit below which n more stand. -/
def bndD (n : Nat) : Int := if n = 0 then 31 else 255
def okD : List Int → Prop
  | [] => True
  | e :: es => -(bndD es.length) ≤ e ∧ e ≤ bndD es.length ∧ okD es
def candD : Nat → Int → List Int
  | 0, N => if N = 0 then [0] else []
  | n + 1, N => [N % 257, N % 257 - 257].flatMap fun q => if -(bndD n) ≤ q ∧ q ≤ bndD n then (candD n ((N - q) / 257)).map fun d => q + 256 * d else []
theorem bndD_le (n : Nat) : bndD n ≤ 255 := by unfold bndD; split <;> omega
theorem cand_mem : ∀ (es : List Int) (N : Int), okD es → valD 257 es = N → valD 256 es ∈ candD es.length N
  | [], N, _, h => by
    have : N = 0 := by simpa [valD] using h.symm
    subst this
    simp [candD, valD]
  | e :: es, N, ⟨h1, h2, h3⟩, h => by
    have hb := bndD_le es.length
    simp only [valD] at h
    have ih := cand_mem es (valD 257 es) h3 rfl
    have hq : (N - e) / 257 = valD 257 es := by omega
    have he : e = N % 257 ∨ e = N % 257 - 257 := by omega
    simp only [List.length_cons, candD, List.mem_flatMap]
    refine ⟨e, ?_, ?_⟩
    · rcases he with he | he
      · rw [← he]; simp
      · rw [← he]; simp
    · rw [if_pos ⟨h1, h2⟩, List.mem_map]
      exact ⟨valD 256 es, by rw [hq]; exact ih, by simp only [valD]⟩
/-- Differences of two keys of one proof. -/
def keyDs : List Int := candD 8 (p61 : Int) ++ candD 8 (-(p61 : Int))
/-- Differences of their seal keys. -/
def sealDs : List Int := keyDs.flatMap fun d => [(d * 257 ^ 9) % (p61 : Int), (d * 257 ^ 9) % (p61 : Int) - p61]
def dg (k i : Nat) : Nat := k / 2 ^ (8 * i) % 256
def dgs (k : Nat) : List Nat := [dg k 0, dg k 1, dg k 2, dg k 3, dg k 4, dg k 5, dg k 6, dg k 7]
theorem pv_num8 (k : Nat) : pv 0 (numB k 8) = (((((((((dg k 7 : Int) + 1) * 257 + dg k 6 + 1) * 257 + dg k 5 + 1) * 257 + dg k 4 + 1) * 257 + dg k 3 + 1) * 257 + dg k 2 + 1) * 257 + dg k 1 + 1) * 257 + dg k 0 + 1) := by
  simp only [numB, pv, List.foldl_cons, List.foldl_nil, UInt8.toNat_ofNat', dg]
  simp
theorem dg_sum (k : Nat) (hk : k < p61) : (k : Int) = dg k 0 + 256 * (dg k 1 + 256 * (dg k 2 + 256 * (dg k 3 + 256 * (dg k 4 + 256 * (dg k 5 + 256 * (dg k 6 + 256 * dg k 7)))))) ∧ dg k 7 ≤ 31 := by
  unfold p61 at hk
  simp only [dg, Nat.reduceMul, Nat.reducePow, Nat.div_one]
  omega
theorem dg_lt (k i : Nat) : dg k i ≤ 255 := by unfold dg; omega
theorem proof_same {k m : Nat} (hk : k < p61) (hm : m < p61) (h : proofN k = proofN m) : k = m ∨ ((k : Int) - m) ∈ keyDs := by
  have e1 := hbs_pv (numB k 8) (nh 2) (nh 2 : Int) rfl
  have e2 := hbs_pv (numB m 8) (nh 2) (nh 2 : Int) rfl
  unfold proofN at h
  rw [h, e2] at e1
  rw [pv_lin (numB k 8), pv_lin (numB m 8), numB_len, numB_len] at e1
  obtain ⟨s1, t1⟩ := dg_sum k hk
  obtain ⟨s2, t2⟩ := dg_sum m hm
  have a0 := dg_lt k 0; have a1 := dg_lt k 1; have a2 := dg_lt k 2; have a3 := dg_lt k 3; have a4 := dg_lt k 4; have a5 := dg_lt k 5; have a6 := dg_lt k 6
  have b0 := dg_lt m 0; have b1 := dg_lt m 1; have b2 := dg_lt m 2; have b3 := dg_lt m 3; have b4 := dg_lt m 4; have b5 := dg_lt m 5; have b6 := dg_lt m 6
  rw [pv_num8, pv_num8] at e1
  generalize hes : ([(dg k 0 : Int) - dg m 0, (dg k 1 : Int) - dg m 1, (dg k 2 : Int) - dg m 2, (dg k 3 : Int) - dg m 3, (dg k 4 : Int) - dg m 4, (dg k 5 : Int) - dg m 5, (dg k 6 : Int) - dg m 6, (dg k 7 : Int) - dg m 7] : List Int) = es
  have hlen : es.length = 8 := by rw [← hes]; rfl
  have hok : okD es := by rw [← hes]; simp only [okD, bndD, List.length_cons, List.length_nil]; simp; omega
  have hv6 : valD 256 es = (k : Int) - m := by rw [← hes]; simp only [valD]; omega
  have hv7 : valD 257 es = 0 ∨ valD 257 es = (p61 : Int) ∨ valD 257 es = -(p61 : Int) := by
    rw [← hes]
    simp only [valD]
    unfold p61 at e1 ⊢
    clear hes hok hv6 hlen s1 s2
    generalize (nh 2 : Int) * 257 ^ 8 = Z at e1
    generalize dg k 0 = x0 at *; generalize dg k 1 = x1 at *; generalize dg k 2 = x2 at *; generalize dg k 3 = x3 at *
    generalize dg k 4 = x4 at *; generalize dg k 5 = x5 at *; generalize dg k 6 = x6 at *; generalize dg k 7 = x7 at *
    generalize dg m 0 = y0 at *; generalize dg m 1 = y1 at *; generalize dg m 2 = y2 at *; generalize dg m 3 = y3 at *
    generalize dg m 4 = y4 at *; generalize dg m 5 = y5 at *; generalize dg m 6 = y6 at *; generalize dg m 7 = y7 at *
    omega
  have hc0 : candD 8 0 = [0] := by decide +kernel
  rcases hv7 with hz | hz | hz
  · have hc := cand_mem es _ hok hz
    rw [hlen, hv6, hc0] at hc
    left
    simp at hc
    omega
  · have hc := cand_mem es _ hok hz
    rw [hlen, hv6] at hc
    exact .inr (List.mem_append_left _ hc)
  · have hc := cand_mem es _ hok hz
    rw [hlen, hv6] at hc
    exact .inr (List.mem_append_right _ hc)
/-! ### seal keys -/
theorem hb_pv (h b : Nat) (g : Int) (e : (h : Int) % p61 = g % p61) : (hb h b : Int) % p61 = (g * 257 + b + 1) % p61 := by
  unfold hb p61 at *
  omega
theorem sk0_pv (k : Nat) (l : Lk) : ∃ z : Int, (sk0 k l : Int) % p61 = ((k : Int) * 257 ^ 9 + z) % p61 ∧ z = ((l.op + 1 : Int) * 257 ^ 4 + pv 0 (numB (uw l.nu) 4)) * 257 ^ 4 + pv 0 (numB (uw l.ve) 4) := by
  refine ⟨_, ?_, rfl⟩
  unfold sk0
  have e0 : (nh k : Int) % p61 = (k : Int) % p61 := by unfold nh p61; omega
  have e1 := hb_pv (nh k) l.op k e0
  have e2 := hbs_pv (numB (uw l.nu) 4) _ _ e1
  have e3 := hbs_pv (numB (uw l.ve) 4) _ _ e2
  rw [e3, pv_lin (numB (uw l.ve) 4), pv_lin (numB (uw l.nu) 4), numB_len, numB_len]
  refine congrArg (fun z : Int => z % (p61 : Int)) ?_
  generalize pv 0 (numB (uw l.nu) 4) = u
  generalize pv 0 (numB (uw l.ve) 4) = v
  have h4 : (257 : Int) ^ 4 = 4362470401 := by decide
  have h9 : (257 : Int) ^ 9 = 257 * 4362470401 * 4362470401 := by decide
  rw [h4, h9]
  omega
theorem seal_same {k m : Nat} (l : Lk) (h5 : l.op ≠ 5) (h : ((k : Int) - m) ∈ keyDs) : ((sealK k l : Int) - sealK m l) ∈ sealDs := by
  obtain ⟨z, e1, hz1⟩ := sk0_pv k l
  obtain ⟨z2, e2, hz2⟩ := sk0_pv m l
  have hzz : z2 = z := hz2.trans hz1.symm
  subst hzz
  have l1 := sk0_lt k l
  have l2 := sk0_lt m l
  have s1 : sealK k l = sk0 k l := by unfold sealK; rw [if_neg h5]
  have s2 : sealK m l = sk0 m l := by unfold sealK; rw [if_neg h5]
  rw [s1, s2]
  refine List.mem_flatMap.2 ⟨_, h, ?_⟩
  have hd : ((k : Int) - m) * 257 ^ 9 = (k : Int) * 257 ^ 9 - (m : Int) * 257 ^ 9 := Int.sub_mul _ _ _
  rw [hd]
  generalize (k : Int) * 257 ^ 9 = a at *
  generalize (m : Int) * 257 ^ 9 = b at *
  simp only [List.mem_cons, List.not_mem_nil, or_false]
  unfold p61 at *
  omega
/-! ### the stream -/
def nxs (k : Nat) : Nat → Nat
  | 0 => k
  | j + 1 => nxt (nxs k j)
theorem nxs_succ (k j : Nat) : nxs k (j + 1) = nxt (nxs k j) := by rw [nxs]
theorem nxs_nxt (k : Nat) (j : Nat) : nxs (nxt k) j = nxs k (j + 1) := by
  induction j with
  | zero => rw [nxs_succ]; rw [nxs, nxs]
  | succ j ih => rw [nxs_succ, ih, nxs_succ k (j + 1)]
def sbN (k i : Nat) : Nat := nxs k (i + 1) / 72057594037927936
theorem sbN_lt (k i : Nat) : sbN k i < 256 := by
  have := nxt_lt (nxs k i)
  show nxt (nxs k i) / 72057594037927936 < 256
  omega
theorem ciph_get : ∀ (xs : List UInt8) (k i : Nat), (ciph k xs)[i]? = xs[i]?.map fun b => b ^^^ UInt8.ofNat (sbN k i)
  | [], _, _ => by simp [ciph]
  | b :: xs, k, 0 => by
    simp only [ciph, List.getElem?_cons_zero, Option.map_some]; rfl
  | b :: xs, k, i + 1 => by
    simp only [ciph, List.getElem?_cons_succ]
    rw [ciph_get xs (nxt k) i]
    have : sbN (nxt k) i = sbN k (i + 1) := by unfold sbN; rw [nxs_nxt]
    rw [this]
theorem nxs_diff (k m : Nat) : ∀ j, ((nxs k j : Int) - nxs m j) % 18446744073709551616 = (6364136223846793005 ^ j * ((k : Int) - m)) % 18446744073709551616
  | 0 => by simp [nxs]
  | j + 1 => by
    have ih := nxs_diff k m j
    have e1 : (nxs k (j + 1) : Int) = ((nxs k j : Int) * 6364136223846793005 + 1442695040888963407) % 18446744073709551616 := by
      show ((nxt (nxs k j) : Nat) : Int) = _
      unfold nxt; omega
    have e2 : (nxs m (j + 1) : Int) = ((nxs m j : Int) * 6364136223846793005 + 1442695040888963407) % 18446744073709551616 := by
      show ((nxt (nxs m j) : Nat) : Int) = _
      unfold nxt; omega
    have e3 : (6364136223846793005 : Int) ^ (j + 1) * ((k : Int) - m) = (6364136223846793005 ^ j * ((k : Int) - m)) * 6364136223846793005 := by
      rw [Int.pow_succ, Int.mul_assoc, Int.mul_assoc, Int.mul_comm 6364136223846793005]
    rw [e1, e2, e3]
    generalize (6364136223846793005 : Int) ^ j * ((k : Int) - m) = g at *
    generalize (nxs k j : Int) = a at *
    generalize (nxs m j : Int) = b at *
    omega
/-- The topmost byte of the difference of two streams at a place, or one less than it. -/
def gq (δ : Int) (j : Nat) : Int := (6364136223846793005 ^ j * δ) % 18446744073709551616 / 72057594037927936
theorem sb_diff (k m i : Nat) : ∃ z : Int, (sbN k i : Int) - sbN m i = gq ((k : Int) - m) (i + 1) + 256 * z ∨ (sbN k i : Int) - sbN m i = gq ((k : Int) - m) (i + 1) + 1 + 256 * z := by
  have h := nxs_diff k m (i + 1)
  unfold gq sbN
  generalize (6364136223846793005 : Int) ^ (i + 1) * ((k : Int) - m) = g at *
  have l1 : nxs k (i + 1) < 18446744073709551616 := nxt_lt _
  have l2 : nxs m (i + 1) < 18446744073709551616 := nxt_lt _
  generalize nxs k (i + 1) = a at *
  generalize nxs m (i + 1) = b at *
  refine ⟨(((a / 72057594037927936 : Nat) : Int) - ((b / 72057594037927936 : Nat) : Int) - g % 18446744073709551616 / 72057594037927936) / 256, ?_⟩
  omega
theorem gq_range (δ : Int) (j : Nat) : 0 ≤ gq δ j ∧ gq δ j ≤ 255 := by
  unfold gq
  generalize (6364136223846793005 : Int) ^ j * δ = g
  omega
def hitB (δ : Int) (j : Nat) : Bool := gq δ j == 0 || gq δ j == 255
theorem hit_of {k m i : Nat} (h : sbN k i = sbN m i) : hitB ((k : Int) - m) (i + 1) = true := by
  obtain ⟨z, hz⟩ := sb_diff k m i
  have := gq_range ((k : Int) - m) (i + 1)
  unfold hitB
  simp only [Bool.or_eq_true, beq_iff_eq]
  rw [h] at hz
  omega
/-! ### a burst of up to seven bytes between two digests -/
def T7 : Int := 74051159531521793
def smallB (δ : Int) (m : Nat) : Bool := decide ((δ * 257 ^ m) % (p61 : Int) < T7) || decide ((p61 : Int) - (δ * 257 ^ m) % (p61 : Int) < T7)
theorem pv_bound7 (xs : List UInt8) (h : xs.length ≤ 7) : 0 ≤ pv 0 xs ∧ pv 0 xs < T7 := by
  obtain ⟨h1, h2⟩ := pv_bound xs
  refine ⟨h1, Int.lt_of_lt_of_le h2 ?_⟩
  unfold T7
  match hq : xs.length, h with
  | 0, _ => decide
  | 1, _ => decide
  | 2, _ => decide
  | 3, _ => decide
  | 4, _ => decide
  | 5, _ => decide
  | 6, _ => decide
  | 7, _ => decide
  | n + 8, hh => omega
theorem burst_D (K0 K : Nat) (xs ys : List UInt8) (a : Nat) (hl : ys.length = xs.length) (hs : ∀ i, i < a ∨ a + 7 ≤ i → ys[i]? = xs[i]?) (ha : a + 7 ≤ xs.length) (h : hbs (nh K0) xs = hbs (nh K) ys) :
    (p61 : Int) ∣ (((K : Int) - K0) * 257 ^ (a + 7) + (pv 0 ((ys.drop a).take 7) - pv 0 ((xs.drop a).take 7))) := by
  have hA : ys.take a = xs.take a := by
    apply List.ext_getElem?
    intro i
    rw [List.getElem?_take, List.getElem?_take]
    split
    · exact hs i (.inl (by omega))
    · rfl
  have hC : ys.drop (a + 7) = xs.drop (a + 7) := by
    apply List.ext_getElem?
    intro i
    rw [List.getElem?_drop, List.getElem?_drop]
    exact hs _ (.inr (by omega))
  have hx : ∀ zs : List UInt8, zs = zs.take a ++ ((zs.drop a).take 7 ++ zs.drop (a + 7)) := fun zs => by
    rw [← List.drop_drop, List.take_append_drop, List.take_append_drop]
  have e1 := hbs_pv xs (nh K0) (K0 : Int) (by unfold nh p61; omega)
  have e2 := hbs_pv ys (nh K) (K : Int) (by unfold nh p61; omega)
  rw [← h, e1] at e2
  have l1 : ((xs.drop a).take 7).length = 7 := by simp; omega
  have l2 : ((ys.drop a).take 7).length = 7 := by simp; omega
  have l0 : (xs.take a).length = a := by simp; omega
  rw [hx xs, hx ys, hA, hC] at e2
  rw [pv_append, pv_append, pv_append, pv_append, pv_lin (xs.drop (a + 7)), pv_lin (xs.drop (a + 7)) (pv _ ((ys.drop a).take 7)), pv_lin ((xs.drop a).take 7), pv_lin ((ys.drop a).take 7), pv_lin (xs.take a), pv_lin (xs.take a) (K : Int), l0, l1, l2] at e2
  generalize pv 0 ((xs.drop a).take 7) = B at *
  generalize pv 0 ((ys.drop a).take 7) = B' at *
  generalize pv 0 (xs.take a) = A at *
  generalize pv 0 (xs.drop (a + 7)) = C at *
  generalize hn : (xs.drop (a + 7)).length = n at *
  have hd : (p61 : Int) ∣ (((K : Int) - K0) * 257 ^ (a + 7) + (B' - B)) * 257 ^ n := by
    have e3 := Int.emod_eq_emod_iff_emod_sub_eq_zero.1 e2.symm
    refine Int.dvd_of_emod_eq_zero (Eq.trans ?_ e3)
    refine congrArg (fun z : Int => z % (p61 : Int)) ?_
    have h7 : (257 : Int) ^ (a + 7) = 257 ^ a * 257 ^ 7 := Int.pow_add _ _ _
    rw [h7]
    generalize (257 : Int) ^ a = P
    generalize (257 : Int) ^ n = Q
    have h77 : (257 : Int) ^ 7 = 74051159531521793 := by decide
    rw [h77]
    simp only [Int.add_mul, Int.sub_mul, Int.mul_assoc]
    omega
  exact dvd_pow _ _ hd
theorem small_of {δ D : Int} {m : Nat} (h : (p61 : Int) ∣ (δ * 257 ^ m + D)) (h1 : -T7 < D) (h2 : D < T7) : smallB δ m = true := by
  unfold smallB
  generalize δ * 257 ^ m = x at *
  simp only [Bool.or_eq_true, decide_eq_true_eq]
  unfold T7 p61 at *
  omega
/-! ### the reckoning -/
def cX : Int := 1792567885866480086
def T6 : Int := 288136807515649
theorem chk1 : (sealDs.all fun δ => !(hitB δ 1) || (δ == cX || δ == -cX)) = true := by decide +kernel
def topB (δ D : Int) : Bool := decide (-T7 < D) && (decide (D < T7) && ((D / T6 - gq δ 1) % 256 == 0 || ((D / T6 + 1 - gq δ 1) % 256 == 0 || (D / T6 - 1 - gq δ 1) % 256 == 0)))
theorem chk0 : (sealDs.all fun δ => !(topB δ (-((δ * 257 ^ 7) % (p61 : Int)))) && !(topB δ ((p61 : Int) - (δ * 257 ^ 7) % (p61 : Int)))) = true := by decide +kernel
theorem chk2 : ([cX, -cX].all fun δ => !(smallB δ 8) && ([32, 64, 96, 128].all fun L => !(smallB δ L) && !(hitB δ L))) = true := by decide +kernel
theorem chkq : gq cX 2 = 175 ∧ gq (-cX) 2 = 80 := by decide +kernel
def farB (z : Nat) : Bool := (List.range 256).all fun u => let d := ((u ^^^ z) + 256 - u) % 256; !(d == 80 || (d == 81 || (d == 175 || d == 176)))
theorem chk3 : ([32, 64, 96, 128].all fun L => (List.range 32).all fun a => !(decide (a + 2 ≤ L)) || farB ((L - 2) ^^^ (L - 2 - a))) = true := by decide +kernel
theorem getD_same {xs ys : List UInt8} (hl : ys.length = xs.length) {i : Nat} (h : ys.getD i 0 = xs.getD i 0) : ys[i]? = xs[i]? := by
  rcases Nat.lt_or_ge i xs.length with q | q
  · rw [List.getD_eq_getElem?_getD, List.getD_eq_getElem?_getD, List.getElem?_eq_getElem q, List.getElem?_eq_getElem (by omega)] at h
    rw [List.getElem?_eq_getElem q, List.getElem?_eq_getElem (by omega)]
    simpa using h
  · rw [List.getElem?_eq_none q, List.getElem?_eq_none (by omega)]
theorem ciph_getD (xs : List UInt8) (k i : Nat) (h : i < xs.length) : (ciph k xs).getD i 0 = xs.getD i 0 ^^^ UInt8.ofNat (sbN k i) := by
  rw [List.getD_eq_getElem?_getD, ciph_get, List.getD_eq_getElem?_getD, List.getElem?_eq_getElem h]; rfl
theorem xor_cancel {a b : UInt8} (h : a ^^^ b = 0) : a = b := by
  have : (a ^^^ b) ^^^ b = 0 ^^^ b := by rw [h]
  rwa [UInt8.xor_assoc, UInt8.xor_self, UInt8.xor_zero, UInt8.zero_xor] at this
theorem ofNat_inj {a b : Nat} (ha : a < 256) (hb : b < 256) (h : UInt8.ofNat a = UInt8.ofNat b) : a = b := by
  have := congrArg UInt8.toNat h
  simp only [UInt8.toNat_ofNat'] at this
  omega
theorem padB_getD (t : List UInt8) (h : t.length < 256) : (padB t).getD 0 0 = 0 ∧ (padB t).getD 1 0 = UInt8.ofNat t.length ∧ ∀ i, t.length + 2 ≤ i → (padB t).getD i 0 = 0 := by
  have e : padB t = UInt8.ofNat (t.length / 2 ^ (8 * 1)) :: UInt8.ofNat (t.length / 2 ^ (8 * 0)) :: (t ++ List.replicate (padN t.length - (t.length + 2)) 0) := by
    unfold padB; simp [numB]
  refine ⟨?_, ?_, fun i hi => ?_⟩
  · rw [e, List.getD_cons_zero, show t.length / 2 ^ (8 * 1) = 0 by omega]; rfl
  · rw [e, List.getD_cons_succ, List.getD_cons_zero]; simp
  · obtain ⟨j, rfl⟩ : ∃ j, i = j + 2 := ⟨i - 2, by omega⟩
    rw [e, List.getD_cons_succ, List.getD_cons_succ, List.getD_eq_getElem?_getD, List.getElem?_append_right (by omega), List.getElem?_replicate]
    split <;> rfl
theorem zeros_getD {zs : List UInt8} {n i : Nat} (h : (zs.drop n).all (· == 0) = true) (hi : n ≤ i) : zs.getD i 0 = 0 := by
  rcases Nat.lt_or_ge i zs.length with q | q
  · have h1 := List.all_eq_true.1 h zs[i] (by
      rw [List.mem_iff_getElem]
      exact ⟨i - n, by simp; omega, by simp [show n + (i - n) = i by omega]⟩)
    rw [List.getD_eq_getElem?_getD, List.getElem?_eq_getElem q]
    simpa using h1
  · rw [List.getD_eq_getElem?_getD, List.getElem?_eq_none q]; rfl
theorem xorK_out (xs bs : List UInt8) (at0 k i : Nat) (h : i < at0 ∨ at0 + k ≤ i) : (xorK xs bs at0 k)[i]? = xs[i]? := by
  rw [xorK_get, if_neg (by omega)]
theorem all_mem {α : Type} {l : List α} {p : α → Bool} (h : l.all p = true) {x : α} (hx : x ∈ l) : p x = true := List.all_eq_true.1 h x hx
theorem T7_val : T7 = 257 * T6 := by decide
/-- A changed Body does not open. -/
theorem no_open {k0 k : Nat} (hk0 : k0 < p61) (hk : k < p61) (hp : proofN k = proofN k0) (l : Lk) (h5 : l.op ≠ 5) (t : List UInt8) (ht : t.length ≤ 100) (bs : List UInt8) (at0 j : Nat) (hj : j ≤ 7)
    (hc : chgK (ciph (sealK k0 l) (padB t)) bs at0 j = true)
    (hfit : hbs (nh (sealK k0 l)) (ciph (sealK k0 l) (padB t)) = hbs (nh (sealK k l)) (xorK (ciph (sealK k0 l) (padB t)) bs at0 j)) :
    unpOk (ciph (sealK k l) (xorK (ciph (sealK k0 l) (padB t)) bs at0 j)) = false := by
  rcases proof_same hk hk0 hp with rfl | hd
  · exact absurd hfit ((burst_law _ _ _ _ _ hj).2 hc)
  · have hδ := seal_same l h5 hd
    generalize sealK k0 l = K0 at *
    generalize sealK k l = K at *
    obtain ⟨xs, hxs⟩ : ∃ xs, xs = padB t := ⟨_, rfl⟩
    obtain ⟨p0, p1, p2⟩ := padB_getD t (by omega)
    have hxl := padB_len t
    rw [← hxs] at hfit hc p0 p1 p2 hxl ⊢
    obtain ⟨bo, hbo⟩ : ∃ bo, bo = ciph K0 xs := ⟨_, rfl⟩
    have hbl : bo.length = xs.length := by rw [hbo, ciph_len]
    have hbg : ∀ i, i < xs.length → bo.getD i 0 = xs.getD i 0 ^^^ UInt8.ofNat (sbN K0 i) := fun i hi => by rw [hbo]; exact ciph_getD xs K0 i hi
    rw [← hbo] at hfit hc ⊢
    have hyl := xorK_len bo bs at0 j
    have hyo := xorK_out bo bs at0 j
    generalize xorK bo bs at0 j = ys at *
    have hdg : ∀ i, i < xs.length → (ciph K ys).getD i 0 = ys.getD i 0 ^^^ UInt8.ofNat (sbN K i) := fun i hi => ciph_getD ys K i (by omega)
    have hdl : (ciph K ys).length = xs.length := by rw [ciph_len]; omega
    generalize ciph K ys = dec at *
    cases hok : unpOk dec with
    | false => rfl
    | true =>
      exfalso
      unfold unpOk at hok
      simp only [Bool.and_eq_true, decide_eq_true_eq] at hok
      obtain ⟨o1, o2, o3, o4, o5⟩ := hok
      obtain ⟨L, hL⟩ : ∃ L, L = xs.length := ⟨_, rfl⟩
      rw [hdl, ← hL] at o1 o3 o4
      rw [← hL] at hdg hbg hbl hdl hxl
      have hm := padN_mod t.length; have hge := padN_ge t.length; have hlt := padN_lt t.length
      rw [← hxl] at hm hge hlt
      have hLs : L = 32 ∨ L = 64 ∨ L = 96 ∨ L = 128 := by omega
      have hL4 : L ∈ [32, 64, 96, 128] := by rcases hLs with rfl | rfl | rfl | rfl <;> simp
      obtain ⟨n, hn⟩ : ∃ n, n = unpN dec := ⟨_, rfl⟩
      rw [← hn] at o2 o3 o4 o5
      unfold unpN at hn
      have hd0 : dec.getD 0 0 = 0 := by
        apply UInt8.toNat_inj.1
        show (dec.getD 0 0).toNat = 0
        omega
      have hd1 : (dec.getD 1 0).toNat = n := by rw [hd0] at hn; simpa using hn.symm
      have s0 := sbN_lt K 0; have s00 := sbN_lt K0 0
      have hg0 := hdg 0 (by omega)
      have hb0 := hbg 0 (by omega)
      rw [hd0] at hg0
      rw [p0, UInt8.zero_xor] at hb0
      have hy0 := xor_cancel hg0.symm
      by_cases q0 : ys.getD 0 0 = bo.getD 0 0
      · have hs : sbN K 0 = sbN K0 0 := ofNat_inj s0 s00 (by rw [← hy0, q0, hb0])
        have h1 := all_mem chk1 hδ
        rw [hit_of hs] at h1
        have hδ2 : ((K : Int) - K0) = cX ∨ ((K : Int) - K0) = -cX := by simpa using h1
        have hm2 : ((K : Int) - K0) ∈ [cX, -cX] := by rcases hδ2 with e | e <;> rw [e] <;> simp
        have h2 := all_mem chk2 hm2
        simp only [Bool.and_eq_true, Bool.not_eq_true'] at h2
        obtain ⟨h8, hall⟩ := h2
        have h3 := all_mem hall hL4
        simp only [Bool.and_eq_true, Bool.not_eq_true'] at h3
        obtain ⟨hsm, hht⟩ := h3
        by_cases qL : ys.getD (L - 1) 0 = bo.getD (L - 1) 0
        · by_cases qe : n = L - 2 ∨ t.length = L - 2
          · by_cases q1 : ys.getD 1 0 = bo.getD 1 0
            · have hg1 := hdg 1 (by omega)
              rw [q1, hbg 1 (by omega), p1] at hg1
              have hv : sbN K 1 = (sbN K0 1) ^^^ (t.length ^^^ n) := by
                have e := congrArg UInt8.toNat hg1
                rw [hd1] at e
                simp only [UInt8.toNat_xor, UInt8.toNat_ofNat'] at e
                have e1 : t.length % 2 ^ 8 = t.length := by omega
                have e2 : sbN K0 1 % 2 ^ 8 = sbN K0 1 := by have := sbN_lt K0 1; omega
                have e3 : sbN K 1 % 2 ^ 8 = sbN K 1 := by have := sbN_lt K 1; omega
                rw [e1, e2, e3] at e
                rw [e]
                apply Nat.eq_of_testBit_eq
                intro i
                simp only [Nat.testBit_xor]
                cases t.length.testBit i <;> cases (sbN K0 1).testBit i <;> cases (sbN K 1).testBit i <;> rfl
              have hz : farB (t.length ^^^ n) = true := by
                have h4 := all_mem chk3 hL4
                rcases qe with e | e
                · have h5 := all_mem h4 (List.mem_range.2 (show L - 2 - t.length < 32 by omega))
                  rw [decide_eq_true (by omega)] at h5
                  rw [show L - 2 - (L - 2 - t.length) = t.length by omega, ← e, Nat.xor_comm] at h5
                  simpa using h5
                · have h5 := all_mem h4 (List.mem_range.2 (show L - 2 - n < 32 by omega))
                  rw [decide_eq_true (by omega)] at h5
                  rw [show L - 2 - (L - 2 - n) = n by omega, ← e] at h5
                  simpa using h5
              have hu := sbN_lt K0 1
              have hv2 := sbN_lt K 1
              have h6 := all_mem hz (List.mem_range.2 hu)
              rw [← hv] at h6
              obtain ⟨z, hzz⟩ := sb_diff K K0 1
              have hq : gq ((K : Int) - K0) 2 = 175 ∨ gq ((K : Int) - K0) 2 = 80 := by
                rcases hδ2 with e | e <;> rw [e]
                · exact .inl chkq.1
                · exact .inr chkq.2
              simp only [Bool.not_eq_true', Bool.or_eq_false_iff, beq_eq_false_iff_ne, ne_eq] at h6
              generalize sbN K 1 = v at *
              generalize sbN K0 1 = u at *
              have hq' : gq ((K : Int) - K0) (1 + 1) = 175 ∨ gq ((K : Int) - K0) (1 + 1) = 80 := hq
              generalize gq ((K : Int) - K0) (1 + 1) = g at *
              omega
            · have hw : at0 ≤ 1 ∧ 1 < at0 + j := by
                refine Classical.byContradiction fun hne => q1 ?_
                rw [List.getD_eq_getElem?_getD, List.getD_eq_getElem?_getD, hyo 1 (by omega)]
              have hD := burst_D K0 K bo ys 1 hyl (fun i hi => by
                rcases hi with hi | hi
                · obtain rfl : i = 0 := by omega
                  exact getD_same hyl q0
                · exact hyo i (by omega)) (by omega) hfit
              have b1 := pv_bound7 ((ys.drop 1).take 7) (by simp; omega)
              have b2 := pv_bound7 ((bo.drop 1).take 7) (by simp; omega)
              have := small_of hD (by omega) (by omega)
              rw [h8] at this; cases this
          · have hdz : dec.getD (L - 1) 0 = 0 := zeros_getD o5 (by omega)
            have hgL := hdg (L - 1) (by omega)
            rw [hdz, qL, hbg (L - 1) (by omega), p2 (L - 1) (by omega), UInt8.zero_xor] at hgL
            have hs : sbN K (L - 1) = sbN K0 (L - 1) := (ofNat_inj (sbN_lt _ _) (sbN_lt _ _) (xor_cancel hgL.symm)).symm
            have := hit_of hs
            rw [show L - 1 + 1 = L by omega, hht] at this; cases this
        · have hw : at0 ≤ L - 1 ∧ L - 1 < at0 + j := by
            refine Classical.byContradiction fun hne => qL ?_
            rw [List.getD_eq_getElem?_getD, List.getD_eq_getElem?_getD, hyo (L - 1) (by omega)]
          have hD := burst_D K0 K bo ys (L - 7) hyl (fun i hi => by
            rcases hi with hi | hi
            · exact hyo i (by omega)
            · rw [List.getElem?_eq_none (by omega), List.getElem?_eq_none (by omega)]) (by omega) hfit
          have b1 := pv_bound7 ((ys.drop (L - 7)).take 7) (by simp; omega)
          have b2 := pv_bound7 ((bo.drop (L - 7)).take 7) (by simp; omega)
          have := small_of hD (by omega) (by omega)
          rw [show L - 7 + 7 = L by omega, hsm] at this; cases this
      · have hw : at0 ≤ 0 ∧ 0 < at0 + j := by
          refine Classical.byContradiction fun hne => q0 ?_
          rw [List.getD_eq_getElem?_getD, List.getD_eq_getElem?_getD, hyo 0 (by omega)]
        have hD := burst_D K0 K bo ys 0 hyl (fun i hi => by
          rcases hi with hi | hi
          · omega
          · exact hyo i (by omega)) (by omega) hfit
        rw [List.drop_zero, List.drop_zero, Nat.zero_add] at hD
        have hcut : ∀ zs : List UInt8, zs.length = L → pv 0 (zs.take 7) = ((zs.getD 0 0).toNat + 1 : Int) * T6 + pv 0 ((zs.take 7).drop 1) ∧ 0 ≤ pv 0 ((zs.take 7).drop 1) ∧ pv 0 ((zs.take 7).drop 1) < T6 := fun zs hz => by
          cases zs with
          | nil => simp at hz; omega
          | cons z zs =>
            have hb := pv_bound (zs.take 6)
            have hl6 : (zs.take 6).length = 6 := by simp at hz; simp; omega
            have h66 : (257 : Int) ^ 6 = T6 := by decide
            rw [hl6, h66] at hb
            rw [List.take_succ_cons, List.drop_one, List.tail_cons, List.getD_cons_zero, pv_cons, pv_lin, hl6, h66]
            refine ⟨?_, hb.1, hb.2⟩
            simp
        obtain ⟨c1, c2, c3⟩ := hcut bo hbl
        obtain ⟨c4, c5, c6⟩ := hcut ys (by omega)
        rw [hb0] at c1
        rw [hy0] at c4
        rw [ofNat_toNat, Nat.mod_eq_of_lt s00] at c1
        rw [ofNat_toNat, Nat.mod_eq_of_lt s0] at c4
        have b1 := pv_bound7 (ys.take 7) (by simp; omega)
        have b2 := pv_bound7 (bo.take 7) (by simp; omega)
        have h0 := all_mem chk0 hδ
        obtain ⟨z, hz⟩ := sb_diff K K0 0
        rw [Nat.zero_add] at hz
        simp only [Bool.and_eq_true, Bool.not_eq_true', topB, Bool.and_eq_false_iff, decide_eq_false_iff_not, Bool.or_eq_false_iff, beq_eq_false_iff_ne, ne_eq] at h0
        generalize ((K : Int) - K0) = δ at *
        generalize pv 0 ((bo.take 7).drop 1) = e1 at *
        generalize pv 0 ((ys.take 7).drop 1) = e2 at *
        generalize pv 0 (bo.take 7) = f1 at *
        generalize pv 0 (ys.take 7) = f2 at *
        generalize sbN K 0 = v at *
        generalize sbN K0 0 = u at *
        generalize gq δ 1 = g at *
        generalize δ * 257 ^ 7 = x at *
        have hD2 : f2 - f1 = -(x % (p61 : Int)) ∨ f2 - f1 = (p61 : Int) - x % (p61 : Int) := by
          unfold T7 p61 at *
          omega
        have hf : f2 - f1 = ((v : Int) - u) * T6 + (e2 - e1) := by rw [c1, c4, Int.add_mul, Int.add_mul, Int.sub_mul]; omega
        have hdv : (f2 - f1) / T6 = (v : Int) - u ∨ (f2 - f1) / T6 = (v : Int) - u - 1 := by
          rw [hf]; unfold T6 at *; omega
        have hbd : -T7 < f2 - f1 ∧ f2 - f1 < T7 := by omega
        rcases hD2 with e | e
        · rw [← e] at h0
          generalize (f2 - f1) / T6 = dd at *
          generalize f2 - f1 = ff at *
          omega
        · rw [← e] at h0
          generalize (f2 - f1) / T6 = dd at *
          generalize f2 - f1 = ff at *
          omega
end Go.Proofs.Ytlahejakcgoheaa
