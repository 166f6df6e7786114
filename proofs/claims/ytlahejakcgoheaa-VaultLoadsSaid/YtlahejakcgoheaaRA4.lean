/-
  Texts merged: RA, RB, RC, RD.
-/
import Derived.Test.YtlahejakcgoheaaWN
import Derived.Test.YtlahejakcgoheaaWD
section
/-
  Walks of the reference: times, Digest, Key, Bytes, Cipher.
-/
set_option linter.unusedVariables false
set_option linter.unusedSimpArgs false
namespace Go.Proofs.Ytlahejakcgoheaa
open Go.RowKit
theorem and1 (b : Nat) (hb : b < 18446744073709551616) : bits .and .u64 (b : Int) 1 = ((b % 2 : Nat) : Int) := by
  have h := Go.bits_and_u64_nat b 1 hb (by omega)
  rw [Nat.and_one_is_mod] at h
  exact h
theorem addw {a b : Nat} (ha : a < p61) (hb : b < p61) : IntKind.u64.wrap ((a : Int) + (b : Int)) = ((a + b : Nat) : Int) := by
  unfold p61 at *
  rw [IntKind.wrap_u64]; omega
theorem remp (n : Nat) : (n : Int) % 2305843009213693951 = ((n % p61 : Nat) : Int) := by unfold p61; omega
theorem rem2 (x y : Nat) : ((x : Int) + (y : Int)) % 2305843009213693951 = (((x + y) % p61 : Nat) : Int) := by unfold p61; omega
theorem mod_in (s x k : Nat) : (s + x % p61 * k) % p61 = (s + x * k) % p61 := by
  rw [Nat.add_mod, Nat.mul_mod, Nat.mod_mod, ← Nat.mul_mod, ← Nat.add_mod]
theorem half_even (a b s : Nat) (e : b % 2 = 0) : (s + (a + a) % p61 * (b / 2)) % p61 = (s + a * b) % p61 := by
  rw [mod_in]
  congr 2
  have : b = 2 * (b / 2) := by omega
  calc (a + a) * (b / 2) = a * (2 * (b / 2)) := by rw [← Nat.two_mul, Nat.mul_comm 2 a, Nat.mul_assoc]
    _ = a * b := by rw [← this]
theorem half_odd (a b s : Nat) (e : b % 2 = 1) : ((s + a) % p61 + (a + a) % p61 * (b / 2)) % p61 = (s + a * b) % p61 := by
  rw [mod_in, Nat.add_mod, Nat.mod_mod, ← Nat.add_mod]
  congr 1
  have : b = 2 * (b / 2) + 1 := by omega
  calc s + a + (a + a) * (b / 2) = s + a * (2 * (b / 2) + 1) := by rw [← Nat.two_mul, Nat.mul_comm 2 a, Nat.mul_assoc, Nat.mul_add a, Nat.mul_one]; omega
    _ = s + a * b := by rw [← this]
set_option maxRecDepth 100000 in
set_option maxHeartbeats 1000000 in
theorem times_any (a b : Nat) (w : World) (ha : a < p61) (hb : b < 18446744073709551616) : Calls Try.prog 46 #[u64 a, u64 b] w fun e w' => e = .returned (u64 (a * b % p61)) ∧ w = w' := by
  have HA := Lib.hid ha; have HB := Lib.hid hb
  obtain ⟨g, hg⟩ : ∃ g, g = a * b % p61 := ⟨_, rfl⟩
  have HG := Lib.hid hg
  rw [← hg]
  clear ha hb hg
  go_enter Try.func46, Try.ntmps46
  go_wp2_with (fail)
  go_loopw [0, 1, 5] (fun x y s wr => ∃ a' b' s' : Nat, x = u64 a' ∧ y = u64 b' ∧ s = u64 s' ∧ Hid (a' < p61 ∧ b' < 18446744073709551616 ∧ s' < p61 ∧ (s' + a' * b') % p61 = g) ∧ wr = w) (fun _ y _ _ => (intOf y).toNat)
  case atStart => exact ⟨a, b, 0, rfl, rfl, rfl, ⟨HA.out, HB.out, by decide, by rw [HG.out, Nat.zero_add]⟩, rfl⟩
  case round =>
    obtain ⟨a', b', s', rfl, rfl, rfl, hh, rfl⟩ := hrel
    have hw2 := addw hh.out.1 hh.out.1
    by_cases hb0 : 0 < b'
    · have hb1 : (0 : Int) < (b' : Int) := by omega
      rcases Nat.mod_two_eq_zero_or_one b' with e | e
      · have hand : bits .and .u64 (b' : Int) 1 = 0 := by rw [and1 b' hh.out.2.1, e]; rfl
        have he := Lib.hid e
        clear e
        go_wp2_with (fail)
        go_roundw
        case rel =>
          refine ⟨(a' + a') % p61, b' / 2, s', by simp only [rem2], by simp, rfl, ⟨Nat.mod_lt _ (by decide), by have := hh.out.2.1; omega, hh.out.2.2.1, ?_⟩, trivial⟩
          rw [half_even _ _ _ he.out]; exact hh.out.2.2.2
        case measure => simp [intOf]; omega
      · have hand : bits .and .u64 (b' : Int) 1 = 1 := by rw [and1 b' hh.out.2.1, e]; rfl
        have hw3 := addw hh.out.2.2.1 hh.out.1
        have he := Lib.hid e
        clear e
        go_wp2_with (fail)
        go_roundw
        case rel =>
          refine ⟨(a' + a') % p61, b' / 2, (s' + a') % p61, by simp only [rem2], by simp, by simp only [rem2], ⟨Nat.mod_lt _ (by decide), by have := hh.out.2.1; omega, Nat.mod_lt _ (by decide), ?_⟩, trivial⟩
          rw [half_odd _ _ _ he.out]; exact hh.out.2.2.2
        case measure => simp [intOf]; omega
    · have hb1 : ¬ (0 : Int) < (b' : Int) := by omega
      have hs : Hid (s' = g) := by
        have := hh.out
        have e : b' = 0 := by omega
        rw [Hid, ← this.2.2.2, e, Nat.mul_zero, Nat.add_zero, Nat.mod_eq_of_lt this.2.2.1]
      go_wp2_with (fail)
      go_ret
      exact ⟨by rw [hs.out]; rfl, rfl⟩
theorem hb_ref (h b : Nat) : (h * 257 % p61 + b + 1) % p61 = hb h b := by
  unfold hb
  rw [Nat.add_assoc, Nat.add_mod, Nat.mod_mod, ← Nat.add_mod, ← Nat.add_assoc]
theorem wrap_lt {z : Int} (h0 : 0 ≤ z) (h1 : z < 18446744073709551616) : IntKind.u64.wrap z = z := by rw [IntKind.wrap_u64]; omega
set_option maxRecDepth 100000 in
set_option maxHeartbeats 1000000 in
theorem rdigest_any (s : Nat) (a : Option Addr) (xs : List UInt8) (c : Nat) (w : World) (hx : Byts w a xs) (hl : xs.length ≤ 9223372036854775807) : Calls Try.prog 15 #[u64 s, .slice a xs.length c] w (Ret (u64 (hbs (nh s) xs)) w) := by
  obtain ⟨n, hn⟩ : ∃ n, n = xs.length := ⟨_, rfl⟩
  have HX := Lib.hid hx; have HN := Lib.hid hn
  rw [← hn] at hl ⊢
  clear hx hn
  go_enter Try.func15, Try.ntmps15
  go_wp2_with (fail)
  simp only [rem_p61]
  go_loopw [5, 6] (fun s' i wr => ∃ k g : Nat, k ≤ n ∧ i = .int .i64 k ∧ s' = u64 g ∧ Hid (g < p61 ∧ g = hbs (nh s) (xs.take k)) ∧ Ext w wr) (fun _ i _ => n - (intOf i).toNat)
  case atStart => exact ⟨0, nh s, Nat.zero_le _, rfl, rfl, ⟨nh_lt _, rfl⟩, Ext.refl w⟩
  case round =>
    obtain ⟨k, g, hk, rfl, rfl, hg, he⟩ := hrel
    by_cases hlt : k < n
    · obtain ⟨b, o, rfl, c0⟩ := HX.out.at k (by rw [← HN.out]; exact hlt)
      have c0r := fun W (e : Ext wr W) => c0 W (he.trans e)
      have hr0 := Ext.refl wr
      have hi0 : (0 : Int) ≤ (k : Int) := by omega
      have hi1 : (k : Int) < (n : Int) := by omega
      have ht : ∀ W, Calls Try.prog 46 #[u64 g, .int .u64 257] W (Ret (u64 (g * 257 % p61)) W) := fun W => (times_any g 257 W hg.out.1 (by omega)).mono fun _ _ q => ⟨q.1, by rw [q.2]; exact Ext.refl _⟩
      have HT := Lib.hid ht
      have hnew : Hid (hb g (bth xs k) < p61 ∧ hb g (bth xs k) = hbs (nh s) (xs.take (k + 1))) := ⟨hb_lt _ _, by rw [hbs_take _ _ _ (by rw [← HN.out]; exact hlt), ← hg.out.2]⟩
      have hres := hb_ref g (bth xs k)
      have hbl := bth_lt xs k
      have htl : g * 257 % p61 < p61 := Nat.mod_lt _ (by decide)
      obtain ⟨t, hT⟩ : ∃ t, t = g * 257 % p61 := ⟨_, rfl⟩
      rw [← hT] at HT hres htl
      obtain ⟨z, hz⟩ : ∃ z, z = bth xs k := ⟨_, rfl⟩
      rw [← hz] at hres hbl c0r hnew
      have hw1 : IntKind.u64.wrap ((t : Int) + (z : Int)) = (t : Int) + (z : Int) := by unfold p61 at htl; exact wrap_lt (by omega) (by omega)
      have hw2 : IntKind.u64.wrap ((t : Int) + (z : Int) + 1) = (t : Int) + (z : Int) + 1 := by unfold p61 at htl; exact wrap_lt (by omega) (by omega)
      have hend : ((t : Int) + (z : Int) + 1) % 2305843009213693951 = ((hb g z : Nat) : Int) := by rw [← hres]; exact remp (t + z + 1)
      have HRES := Lib.hid hend
      clear ht hend hres hT hz htl c0
      go_upto_region 5 with fail
      refine wp_region_ext (by kernel_rfl) (by kernel_rfl) hr0 ?_
      repeat (first | go_big_quiet_step ((first | (go_at_call 46; exact Calls.later (HT.out _)))) | quiet_step ((first | (go_at_call 46; exact Calls.later (HT.out _)))))
      refine wpQuiet_nil ?_
      rintro _ ⟨nq, rfl⟩
      have he2 := he.trans nq.ok
      go_wp2_with (fail)
      go_roundw
      case rel => exact ⟨k + 1, hb g z, by omega, by go_num, by rw [HRES.out], hnew, he2⟩
      case measure => simp [intOf]; omega
    · obtain rfl : k = n := by omega
      have hs : Hid (g = hbs (nh s) xs) := by
        rw [Hid, hg.out.2, List.take_of_length_le (by rw [← HN.out]; exact Nat.le_refl _)]
      go_wp2_with (fail)
      go_ret
      exact ⟨by rw [hs.out]; rfl, he⟩
theorem hbs_one (h : Nat) : hbs h [0] = hb h 0 := by rw [hbs_cons, hbs_nil]; simp
theorem byts_lit {w : World} {g : Nat} {bs : List UInt8} {fz : Nat × Nat} (h : w.heap[g]? = some (.cells (rowB bs).toArray 5 fz)) : Byts w (some ⟨g, 0, none⟩) bs := by
  refine .inr ⟨g, 0, rfl, fun i hi => ?_⟩
  rw [Nat.zero_add, World.cell?, h]
  simp only [Option.isSome_none, Bool.false_eq_true, if_false]
  rw [List.getElem?_toArray, rowB_get bs i hi]
end Go.Proofs.Ytlahejakcgoheaa
end
section
/-
  Walks of the reference: Key, Cipher.
-/
set_option linter.unusedVariables false
set_option linter.unusedSimpArgs false
namespace Go.Proofs.Ytlahejakcgoheaa
open Go.RowKit
theorem keyN_ref (n p : ByteArray) : hbs (nh 1) (n.data.toList ++ [0] ++ p.data.toList) = keyN n p := by
  rw [hbs_append, hbs_append, hbs_one]; rfl
set_option maxRecDepth 100000 in
set_option maxHeartbeats 1000000 in
theorem rkey_any (n p : ByteArray) (w : World) (hn : n.size ≤ 1000000) (hp : p.size ≤ 1000000) : Calls Try.prog 17 #[.string n, .string p] w (Ret (u64 (keyN n p)) w) := by
  obtain ⟨e1, o1, z1⟩ := bytesW_facts w n (by unfold maxLen; omega)
  have x1 := (Ext.refl (bytesW w n)).alloc (.cells #[.int .u8 0] 5)
  have y1 : Byts ((bytesW w n).alloc (.cells #[.int .u8 0] 5)) (some ⟨w.heap.size + 1, 0, none⟩) [0] := byts_lit (bs := [0]) (by rw [← z1]; exact heap_new _ _)
  have happ := app_bytes ((bytesW w n).alloc (.cells #[.int .u8 0] 5)) w.heap.size 23 _ n.data.toList [0] (some ⟨w.heap.size + 1, 0, none⟩) 1 (o1.ext x1) y1 (by simp; omega) (by have := e1.size; have := x1.size; omega)
  have HAPP := Lib.hid happ
  have HE1 := Lib.hid (e1.trans x1)
  have HN := Lib.hid hn; have HP := Lib.hid hp
  clear happ o1 x1 y1 e1 hn hp z1
  go_enter Try.func17, Try.ntmps17
  go_wp2_with (first | (at_builtin; refine wpList_app _ rfl _ _ 23 rfl _ HAPP.out ?_; clear HAPP; rintro v' w2 ⟨ho5, hg5, -⟩; have he5 := grown_ext HE1.out hg5 (by intro k hk; simp [Value.ownBlock] at hk; omega); obtain ⟨a4, c4, rfl⟩ := ho5.slice; have hz2 := bytesW_facts w2 p (by have := HP.out; unfold maxLen; omega); have hap2 := app_bytes (bytesW w2 p) w.heap.size 23 _ (n.data.toList ++ [0]) p.data.toList (some ⟨w2.heap.size, 0, none⟩) (bytesC w2 p) (ho5.ext hz2.1) hz2.2.1.byts.1 (by have := HN.out; have := HP.out; simp; omega) (by have := hz2.1.size; have := he5.size; omega); have HAP2 := Lib.hid hap2; have HL5 := Lib.hid ho5.lt; have HE5 := Lib.hid (he5.trans hz2.1); clear ho5 hg5 he5 hz2 hap2; obtain ⟨m1, hm1⟩ : ∃ m, m = (n.data.toList ++ [0]).length := ⟨_, rfl⟩; rw [← hm1] at HAP2 HL5 ⊢; have hps : p.data.toList.length = p.size := (by simp); rw [hps] at HAP2; clear hm1 hps) | (at_builtin; refine wpList_app _ rfl _ _ 23 rfl _ HAP2.out ?_; clear HAP2; rintro v' w3 ⟨ho6, hg6, -⟩; have he6 := grown_ext HE5.out hg6 (fun k hk => (HL5.out k hk).1); obtain ⟨a5, c5, rfl⟩ := ho6.slice; have hdg : Calls Try.prog 15 #[.int .u64 1, .slice a5 (n.data.toList ++ [0] ++ p.data.toList).length c5] w3 (Ret (u64 (hbs (nh 1) (n.data.toList ++ [0] ++ p.data.toList))) w3) := rdigest_any 1 a5 (n.data.toList ++ [0] ++ p.data.toList) c5 w3 ho6.byts.1 (by have := HN.out; have := HP.out; simp; omega); rw [keyN_ref] at hdg; obtain ⟨m2, hm2⟩ : ∃ m, m = (n.data.toList ++ [0] ++ p.data.toList).length := ⟨_, rfl⟩; rw [← hm2] at hdg ⊢; have HDG := Lib.hid hdg; have HE6 := Lib.hid he6; clear hdg he6 ho6 hg6 hm2) | fail)
  (with_reducible refine HDG.out.mono ?_); rintro e w4 ⟨rfl, he7⟩
  go_wp2_with (fail)
  go_ret
  exact ⟨rfl, HE6.out.trans he7⟩
theorem ciph_cut (key : Nat) (xs : List UInt8) (k g : Nat) (hk : k < xs.length) (h : ciph key xs = ciph key (xs.take k) ++ ciph g (xs.drop k)) :
    ciph key (xs.take (k + 1)) = ciph key (xs.take k) ++ [xs.getD k 0 ^^^ UInt8.ofNat (nxt g / 72057594037927936)] ∧ ciph key xs = ciph key (xs.take (k + 1)) ++ ciph (nxt g) (xs.drop (k + 1)) := by
  have hd : xs.drop k = xs.getD k 0 :: xs.drop (k + 1) := by
    rw [List.drop_eq_getElem_cons hk]; simp [hk]
  rw [hd, ciph] at h
  have hpre : ∀ (a b : List UInt8), ciph key (a ++ b) = ciph key a ++ (ciph key (a ++ b)).drop a.length := fun a b => by
    have : ∀ (a b : List UInt8) (q : Nat), ciph q (a ++ b) = ciph q a ++ (ciph q (a ++ b)).drop a.length := by
      intro a
      induction a with
      | nil => intro b q; simp [ciph]
      | cons z a ih => intro b q; simp only [List.cons_append, ciph, List.length_cons, List.drop_succ_cons]; rw [← ih]
    exact this a b key
  have h1 := hpre (xs.take (k + 1)) (xs.drop (k + 1))
  rw [List.take_append_drop] at h1
  have hl : (ciph key (xs.take (k + 1))).length = k + 1 := by rw [ciph_len, List.length_take]; omega
  have hl2 : (ciph key (xs.take k)).length = k := by rw [ciph_len, List.length_take]; omega
  have h2 : ciph key (xs.take (k + 1)) = (ciph key xs).take (k + 1) := by
    obtain ⟨D, hD⟩ : ∃ D, ciph key xs = ciph key (xs.take (k + 1)) ++ D := ⟨_, h1⟩
    rw [hD, List.take_append_of_le_length (by omega)]
    exact (List.take_of_length_le (by omega)).symm
  have h3 : (ciph key xs).take (k + 1) = ciph key (xs.take k) ++ [xs.getD k 0 ^^^ UInt8.ofNat (nxt g / 72057594037927936)] := by
    rw [h, List.take_append, hl2, List.take_of_length_le (by omega), show k + 1 - k = 1 by omega]; rfl
  refine ⟨h2.trans h3, ?_⟩
  rw [h2, h3, h, List.append_assoc]; rfl
set_option maxRecDepth 100000 in
set_option maxHeartbeats 1000000 in
theorem rcipher_any (key : Nat) (a : Option Addr) (xs : List UInt8) (c : Nat) (w : World) (hk : key < 18446744073709551616) (hx : Byts w a xs) (hl : xs.length ≤ 1000000) : Calls Try.prog 19 #[u64 key, .slice a xs.length c] w (RetB (ciph key xs) w) := by
  obtain ⟨n, hn⟩ : ∃ n, n = xs.length := ⟨_, rfl⟩
  have HX := Lib.hid hx; have HN := Lib.hid hn; have HL := Lib.hid hl
  have hnb : n ≤ 1000000 := by rw [hn]; exact hl
  rw [← hn]
  clear hx hn hl
  go_enter Try.func19, Try.ntmps19
  go_upto_region 2 with fail
  generalize hw1 : World.alloc _ _ = w1
  obtain ⟨he1, o1, hz1⟩ := alloc1 hw1
  have HO : Hid (OwnB w1 w.heap.size (.slice (some ⟨w.heap.size, 0, none⟩) 0 0) []) := .inr ⟨w.heap.size, 0, #[], (0, 0), rfl, Nat.le_refl _, o1, by simp, by simp [maxLen], by simp, by simp [rowB], .inl rfl⟩
  have HE := Lib.hid he1
  clear hw1 o1 hz1 he1
  go_wp2_with (fail)
  go_loopw [0, 5, 6] (fun s out i wr => ∃ k g : Nat, k ≤ n ∧ i = .int .i64 k ∧ s = u64 g ∧ Hid (ciph key xs = ciph key (xs.take k) ++ ciph g (xs.drop k)) ∧ Hid (Ext w wr) ∧ Hid (OwnB wr w.heap.size out (ciph key (xs.take k)))) (fun _ _ i _ => n - (intOf i).toNat)
  case atStart => exact ⟨0, key, Nat.zero_le _, rfl, rfl, rfl, HE.out, HO.out⟩
  case round =>
    obtain ⟨k, g, hk, rfl, rfl, hg, he, ho⟩ := hrel
    by_cases hlt : k < n
    · have hlx : k < xs.length := by rw [← HN.out]; exact hlt
      obtain ⟨b, o, rfl, c0⟩ := HX.out.at k hlx
      have c1 := fun W (e : Ext wr W) => c0 W (he.out.trans e)
      have e2 : bth xs k = (xs.getD k 0).toNat := rfl
      obtain ⟨x, hx2⟩ : ∃ x, x = xs.getD k 0 := ⟨_, rfl⟩
      rw [e2, ← hx2] at c1
      clear c0 e2
      obtain ⟨h1, h2⟩ := ciph_cut key xs k g hlx hg.out
      rw [← hx2] at h1
      have H1 := Lib.hid h1; have H2 := Lib.hid h2; have HX2 := Lib.hid hx2
      have E0 := Ext.refl wr
      have hi0 : (0 : Int) ≤ (k : Int) := by omega
      have hi1 : (k : Int) < (n : Int) := by omega
      clear h1 h2 hx2
      go_upto_region 6 with fail
      simp only [wrap_nxt]
      have hxb := xor_byte x (nxt g)
      obtain ⟨z, hz⟩ : ∃ z : UInt8, z = x ^^^ UInt8.ofNat (nxt g / 72057594037927936) := ⟨_, rfl⟩
      rw [← hz] at hxb H1
      have yb : Byts (wr.alloc (.cells #[.int .u8 ((z.toNat : Nat) : Int)] 5)) (some ⟨wr.heap.size, 0, none⟩) [z] := byts_lit (bs := [z]) (heap_new _ _)
      have hxa := (Ext.refl wr).alloc (.cells #[.int .u8 ((z.toNat : Nat) : Int)] 5)
      have hap := app_bytes (wr.alloc (.cells #[.int .u8 ((z.toNat : Nat) : Int)] 5)) w.heap.size 23 u5 (ciph key (xs.take k)) [z] (some ⟨wr.heap.size, 0, none⟩) 1 (ho.out.ext hxa) yb (by rw [ciph_len, List.length_take]; have := HL.out; simp; omega) (by have := he.out.size; have := hxa.size; omega)
      rw [← H1.out] at hap
      have HAPP := Lib.hid hap; have HXA := Lib.hid (he.out.trans hxa); have HLT := Lib.hid ho.out.lt
      clear hap yb hxa hz
      go_wp2_with (first | (at_builtin; refine wpList_app _ rfl _ _ 23 rfl _ HAPP.out ?_; clear HAPP; rintro v' w2 ⟨ho5, hg5, -⟩; have HO5 := Lib.hid ho5; have HE5 := Lib.hid (grown_ext HXA.out hg5 (fun k hk => (HLT.out k hk).1)); clear ho5 hg5) | fail)
      go_roundw
      case rel => exact ⟨k + 1, nxt g, by omega, by go_num, rfl, H2, HE5, HO5⟩
      case measure => simp [intOf]; omega
    · obtain rfl : k = n := by omega
      have hend : Hid (ciph key (xs.take k) = ciph key xs) := by rw [Hid, List.take_of_length_le (by rw [HN.out]; exact Nat.le_refl _)]
      obtain ⟨a5, c5, rfl⟩ := ho.out.slice
      go_wp2_with (fail)
      go_ret
      refine ⟨a5, c5, by rw [hend.out]; rfl, he.out, ?_⟩
      have h1 := ho.out
      rw [hend.out] at h1
      exact h1
end Go.Proofs.Ytlahejakcgoheaa
end
section
/-
  Walks of the reference: Day, Customer, Pass.
-/
set_option linter.unusedVariables false
set_option linter.unusedSimpArgs false
namespace Go.Proofs.Ytlahejakcgoheaa
open Go.RowKit
/-- A vault of the reference. -/
abbrev rv (N : Bool) (a : Option Addr) (n c : Nat) : Value := .agg #[.bool N, .slice a n c]
def dayL (ls : List Lk) : Int := ls.foldl (fun d l => if l.op = 2 then l.da else d) 0
def advN (ls : List Lk) : Nat := ls.foldl (fun d l => if l.op = 2 then d + 1 else d) 0
theorem take_snoc (xs : List Lv) (k : Nat) (hk : k < xs.length) : (lks xs).take (k + 1) = (lks xs).take k ++ [(lth xs k).l] := by
  have hl : k < (lks xs).length := by rw [lks_len]; exact hk
  rw [List.take_succ_eq_append_getElem hl, lth_eq _ _ hk]; simp [lks]
theorem dayL_snoc (ls : List Lk) (l : Lk) : dayL (ls ++ [l]) = if l.op = 2 then l.da else dayL ls := by
  unfold dayL; rw [List.foldl_append]; rfl
theorem advN_snoc (ls : List Lk) (l : Lk) : advN (ls ++ [l]) = if l.op = 2 then advN ls + 1 else advN ls := by
  unfold advN; rw [List.foldl_append]; rfl
theorem advN_le : ∀ (k : Nat) (ls : List Lk), advN (ls.take k) ≤ k
  | 0, ls => by simp [advN]
  | k + 1, ls => by
    by_cases h : k < ls.length
    · rw [List.take_succ_eq_append_getElem h, advN_snoc]
      have := advN_le k ls
      split <;> omega
    · rw [List.take_of_length_le (by omega)]
      have := advN_le k ls
      rw [List.take_of_length_le (by omega)] at this
      omega
set_option maxRecDepth 100000 in
set_option maxHeartbeats 1000000 in
theorem rday_any (N : Bool) (a : Option Addr) (xs : List Lv) (c : Nat) (w : World) (h : Links w a xs) (ho : LksOk xs) (hl : xs.length ≤ 1000000) :
    Calls Try.prog 25 #[rv N a xs.length c] w (Ret (.tuple #[.int .i64 (dayL (lks xs)), .int .i64 (advN (lks xs))]) w) := by
  obtain ⟨n, hn⟩ : ∃ n, n = xs.length := ⟨_, rfl⟩
  have HX := Lib.hid h; have HN := Lib.hid hn
  rw [← hn] at hl ⊢
  clear h ho hn
  go_enter Try.func25, Try.ntmps25
  go_upto_region 1 with fail
  generalize hw1 : World.alloc _ _ = w1
  obtain ⟨he, o1, -⟩ := alloc1 hw1
  obtain ⟨b0, b1⟩ := obj_cells2 o1
  clear hw1 o1 b0
  have HB1 := Lib.hid b1; have HE := Lib.hid he
  clear b1
  go_wp2_with (fail)
  go_loopw [4, 5, 6] (fun d m i wr => ∃ k : Nat, k ≤ n ∧ i = .int .i64 k ∧ d = .int .i64 (dayL ((lks xs).take k)) ∧ m = .int .i64 (advN ((lks xs).take k)) ∧ Hid (Ext w1 wr)) (fun _ _ i _ => n - (intOf i).toNat)
  case atStart => exact ⟨0, Nat.zero_le _, rfl, rfl, rfl, Ext.refl _⟩
  case round =>
    obtain ⟨k, hk, rfl, rfl, rfl, her⟩ := hrel
    have E0 := Ext.refl wr
    have b1 := fun W (e : Ext wr W) => HB1.out W (her.out.trans e)
    by_cases hlt : k < n
    · have hlx : k < xs.length := by rw [← HN.out]; exact hlt
      obtain ⟨b, o, rfl, hc⟩ := HX.out.at k hlx
      have hts := take_snoc xs k hlx
      have hds := dayL_snoc ((lks xs).take k) (lth xs k).l
      have has := advN_snoc ((lks xs).take k) (lth xs k).l
      rw [← hts] at hds has
      have hcl := fun W (e : Ext wr W) => hc W ((HE.out.trans her.out).trans e)
      have c0 := fun W (e : Ext wr W) => (hcl W e).1
      have c5 := fun W (e : Ext wr W) => (hcl W e).2.2.2.2.2.1
      obtain ⟨x, hx⟩ : ∃ x, x = lth xs k := ⟨_, rfl⟩
      rw [← hx] at hds has c0 c5
      have hle := advN_le k (lks xs)
      obtain ⟨m, hm⟩ : ∃ m, m = advN ((lks xs).take k) := ⟨_, rfl⟩
      rw [← hm] at hle has
      have HDS := Lib.hid hds; have HAS := Lib.hid has; have HM := Lib.hid hm
      rw [← hm]
      have hi0 : (0 : Int) ≤ (k : Int) := by omega
      have hi1 : (k : Int) < (n : Int) := by omega
      clear hc hcl hts hds has hx hm
      cases T : ((x.l.op : Int) == 2)
      · have ht : Hid (x.l.op ≠ 2) := by rw [beq_eq_false_iff_ne] at T; intro e; exact T (by omega)
        go_wp2_with (fail)
        go_roundw
        case rel => exact ⟨k + 1, by omega, by go_num, by rw [HDS.out, if_neg ht.out], by rw [HAS.out, if_neg ht.out], her⟩
        case measure => simp [intOf]; omega
      · have ht : Hid (x.l.op = 2) := by rw [beq_iff_eq] at T; rw [Hid]; omega
        go_wp2_with (fail)
        go_roundw
        case rel => exact ⟨k + 1, by omega, by go_num, by rw [HDS.out, if_pos ht.out], by rw [HAS.out, if_pos ht.out]; go_num, her⟩
        case measure => simp [intOf]; omega
    · obtain rfl : k = n := by omega
      have hend : Hid ((lks xs).take k = lks xs) := by rw [Hid, List.take_of_length_le (by rw [lks_len, HN.out]; exact Nat.le_refl _)]
      go_wp2_with (fail)
      go_ret2
      exact ⟨by rw [hend.out]; rfl, HE.out.trans her.out⟩
def cusF (nm : ByteArray) (ls : List Lk) : Nat × Int := ls.foldl (fun p l => (p.1 + 1, if l.op = 1 ∧ l.cu = nm then (p.1 : Int) else p.2)) (0, -1)
def cusAt (nm : ByteArray) (ls : List Lk) : Int := (cusF nm ls).2
def cusN (ls : List Lk) : Nat := ls.foldl (fun d l => if l.op = 1 then d + 1 else d) 0
theorem cusF_snoc (nm : ByteArray) (ls : List Lk) (l : Lk) : cusF nm (ls ++ [l]) = ((cusF nm ls).1 + 1, if l.op = 1 ∧ l.cu = nm then ((cusF nm ls).1 : Int) else (cusF nm ls).2) := by
  unfold cusF; rw [List.foldl_append]; rfl
theorem cusF_take (nm : ByteArray) : ∀ (k : Nat) (ls : List Lk), k ≤ ls.length → (cusF nm (ls.take k)).1 = k
  | 0, _, _ => by simp [cusF]
  | k + 1, ls, h => by rw [List.take_succ_eq_append_getElem (by omega), cusF_snoc, cusF_take nm k ls (by omega)]
theorem cusN_snoc (ls : List Lk) (l : Lk) : cusN (ls ++ [l]) = if l.op = 1 then cusN ls + 1 else cusN ls := by
  unfold cusN; rw [List.foldl_append]; rfl
theorem cusN_le : ∀ (k : Nat) (ls : List Lk), cusN (ls.take k) ≤ k
  | 0, ls => by simp [cusN]
  | k + 1, ls => by
    by_cases h : k < ls.length
    · rw [List.take_succ_eq_append_getElem h, cusN_snoc]
      have := cusN_le k ls
      split <;> omega
    · rw [List.take_of_length_le (by omega)]
      have := cusN_le k ls
      rw [List.take_of_length_le (by omega)] at this
      omega
set_option maxRecDepth 100000 in
set_option maxHeartbeats 1000000 in
theorem rcus_any (N : Bool) (a : Option Addr) (xs : List Lv) (c : Nat) (nm : ByteArray) (w : World) (h : Links w a xs) (hl : xs.length ≤ 1000000) :
    Calls Try.prog 77 #[rv N a xs.length c, .string nm] w (Ret (.tuple #[.int .i64 (cusAt nm (lks xs)), .int .i64 (cusN (lks xs))]) w) := by
  obtain ⟨n, hn⟩ : ∃ n, n = xs.length := ⟨_, rfl⟩
  have HX := Lib.hid h; have HN := Lib.hid hn
  rw [← hn] at hl ⊢
  clear h hn
  go_enter Try.func77, Try.ntmps77
  go_upto_region 1 with fail
  generalize hw1 : World.alloc _ _ = w1
  obtain ⟨he, o1, -⟩ := alloc1 hw1
  obtain ⟨b0, b1⟩ := obj_cells2 o1
  clear hw1 o1 b0
  have HB1 := Lib.hid b1; have HE := Lib.hid he
  clear b1
  go_wp2_with (fail)
  go_loopw [6, 7, 8] (fun d m i wr => ∃ k : Nat, k ≤ n ∧ i = .int .i64 k ∧ d = .int .i64 (cusAt nm ((lks xs).take k)) ∧ m = .int .i64 (cusN ((lks xs).take k)) ∧ Hid (Ext w1 wr)) (fun _ _ i _ => n - (intOf i).toNat)
  case atStart => exact ⟨0, Nat.zero_le _, rfl, rfl, rfl, Ext.refl _⟩
  case round =>
    obtain ⟨k, hk, rfl, rfl, rfl, her⟩ := hrel
    have E0 := Ext.refl wr
    have b1 := fun W (e : Ext wr W) => HB1.out W (her.out.trans e)
    by_cases hlt : k < n
    · have hlx : k < xs.length := by rw [← HN.out]; exact hlt
      obtain ⟨b, o, rfl, hc⟩ := HX.out.at k hlx
      have hts := take_snoc xs k hlx
      have hds : cusAt nm ((lks xs).take (k + 1)) = if (lth xs k).l.op = 1 ∧ (lth xs k).l.cu = nm then (k : Int) else cusAt nm ((lks xs).take k) := by
        unfold cusAt; rw [hts, cusF_snoc, cusF_take nm k _ (by rw [lks_len]; omega)]
      have has := cusN_snoc ((lks xs).take k) (lth xs k).l
      rw [← hts] at has
      have hcl := fun W (e : Ext wr W) => hc W ((HE.out.trans her.out).trans e)
      have c0 := fun W (e : Ext wr W) => (hcl W e).1
      have c1 := fun W (e : Ext wr W) => (hcl W e).2.1
      obtain ⟨x, hx⟩ : ∃ x, x = lth xs k := ⟨_, rfl⟩
      rw [← hx] at hds has c0 c1
      have hle := cusN_le k (lks xs)
      obtain ⟨m, hm⟩ : ∃ m, m = cusN ((lks xs).take k) := ⟨_, rfl⟩
      rw [← hm] at hle has
      have HDS := Lib.hid hds; have HAS := Lib.hid has; have HM := Lib.hid hm
      rw [← hm]
      have hi0 : (0 : Int) ≤ (k : Int) := by omega
      have hi1 : (k : Int) < (n : Int) := by omega
      clear hc hcl hts hds has hx hm
      cases T : ((x.l.op : Int) == 1)
      · have ht : Hid (x.l.op ≠ 1) := by rw [beq_eq_false_iff_ne] at T; intro e; exact T (by omega)
        go_wp2_with (fail)
        go_roundw
        case rel => exact ⟨k + 1, by omega, by go_num, by rw [HDS.out, if_neg fun q => ht.out q.1], by rw [HAS.out, if_neg ht.out], her⟩
        case measure => simp [intOf]; omega
      · have ht : Hid (x.l.op = 1) := by rw [beq_iff_eq] at T; rw [Hid]; omega
        cases T2 : decide (x.l.cu = nm)
        · have ht2 : Hid (x.l.cu ≠ nm) := by rw [Hid]; exact of_decide_eq_false T2
          have s2 := str_beq x.l.cu nm
          rw [T2] at s2
          go_wp2_with (fail)
          go_roundw
          case rel => exact ⟨k + 1, by omega, by go_num, by rw [HDS.out, if_neg fun q => ht2.out q.2], by rw [HAS.out, if_pos ht.out]; go_num, her⟩
          case measure => simp [intOf]; omega
        · have ht2 : Hid (x.l.cu = nm) := by rw [Hid]; exact of_decide_eq_true T2
          have s2 := str_beq x.l.cu nm
          rw [T2] at s2
          go_wp2_with (fail)
          go_roundw
          case rel => exact ⟨k + 1, by omega, by go_num, by rw [HDS.out, if_pos ⟨ht.out, ht2.out⟩], by rw [HAS.out, if_pos ht.out]; go_num, her⟩
          case measure => simp [intOf]; omega
    · obtain rfl : k = n := by omega
      have hend : Hid ((lks xs).take k = lks xs) := by rw [Hid, List.take_of_length_le (by rw [lks_len, HN.out]; exact Nat.le_refl _)]
      go_wp2_with (fail)
      go_ret2
      exact ⟨by rw [hend.out]; rfl, HE.out.trans her.out⟩
theorem sidx (s : ByteArray) (k : Nat) (h : k < s.size) : s[k] = s.data.toList.getD k 0 := by
  have h2 : k < s.data.toList.length := by simpa using h
  rw [List.getD_eq_getElem?_getD, List.getElem?_eq_getElem h2]
  simp only [Option.getD_some, Array.getElem_toList]
  rfl
theorem no_zero {s : ByteArray} (h : ∀ j, j < s.size → s.data.toList.getD j 0 ≠ 0) : s.data.toList.contains 0 = false := by
  rw [Bool.eq_false_iff]
  intro hc
  have hm : (0 : UInt8) ∈ s.data.toList := by simpa using hc
  obtain ⟨j, hj, e⟩ := List.getElem_of_mem hm
  have hj2 : j < s.size := by rw [← len_data]; exact hj
  refine h j hj2 ?_
  rw [List.getD_eq_getElem?_getD, List.getElem?_eq_getElem hj, e]; rfl
theorem some_zero {s : ByteArray} (k : Nat) (hk : k < s.size) (h : s.data.toList.getD k 0 = 0) : s.data.toList.contains 0 = true := by
  have h2 : k < s.data.toList.length := by rw [len_data]; exact hk
  have hm : (0 : UInt8) ∈ s.data.toList := by
    rw [List.getD_eq_getElem?_getD, List.getElem?_eq_getElem h2] at h
    exact h ▸ List.getElem_mem h2
  simpa using hm
set_option maxRecDepth 100000 in
set_option maxHeartbeats 1000000 in
theorem rpass_any (s : ByteArray) (w : World) (hs : s.size ≤ maxLen) : Calls Try.prog 76 #[.string s] w (Ret (.bool (passB s)) w) := by
  have hs' := hs
  unfold maxLen at hs'
  go_enter Try.func76, Try.ntmps76
  go_wp2_with (fail)
  go_loopw [3] (fun i wr => ∃ k : Nat, k ≤ s.size ∧ i = .int .i64 k ∧ Hid (Ext w wr) ∧ Hid (∀ j, j < k → s.data.toList.getD j 0 ≠ 0)) (fun i _ => s.size - (intOf i).toNat)
  case atStart => exact ⟨0, Nat.zero_le _, rfl, Ext.refl _, fun j h => by omega⟩
  case round =>
    obtain ⟨k, hk, rfl, her, hz⟩ := hrel
    by_cases hlt : k < s.size
    · have hi0 : (0 : Int) ≤ (k : Int) := by omega
      have hi1 : (k : Int) < (s.size : Int) := by omega
      have hsi := Lib.hid (sidx s k hlt)
      cases T : ((s[k].toNat : Int) == 0)
      · have hnz : Hid (s.data.toList.getD k 0 ≠ 0) := by
          rw [Hid, ← hsi.out]; intro e
          rw [beq_eq_false_iff_ne] at T; apply T; rw [e]; rfl
        go_wp2_with (fail)
        go_roundw
        case rel => exact ⟨k + 1, by omega, by go_num, her, fun j hj => by
          by_cases q : j < k
          · exact hz.out j q
          · obtain rfl : j = k := by omega
            exact hnz.out⟩
        case measure => simp [intOf]; omega
      · have hp : Hid (passB s = false) := by
          rw [Hid]; unfold passB
          rw [some_zero k hlt (by rw [← hsi.out]; rw [beq_iff_eq] at T; exact UInt8.toNat_inj.1 (by have : (0 : UInt8).toNat = 0 := rfl; rw [this]; omega))]
          simp
        go_wp2_with (fail)
        go_ret
        exact ⟨by rw [hp.out]; rfl, her.out⟩
    · obtain rfl : k = s.size := by omega
      have hc := Lib.hid (no_zero hz.out)
      have hp : Hid (passB s = (decide (1 ≤ (s.size : Int)) && decide ((s.size : Int) ≤ 40))) := by
        rw [Hid]; unfold passB
        rw [hc.out, Bool.eq_iff_iff]
        simp only [Bool.and_eq_true, bne_iff_ne, ne_eq, decide_eq_true_eq, Bool.not_false, and_true]; omega
      cases T1 : decide (1 ≤ (s.size : Int))
      · have h1 : Hid (passB s = false) := by rw [Hid, hp.out, T1]; rfl
        go_wp2_with (fail)
        go_ret
        exact ⟨by rw [h1.out]; rfl, her.out⟩
      · have h1 : Hid (passB s = decide ((s.size : Int) ≤ 40)) := by rw [Hid, hp.out, T1]; rfl
        go_wp2_with (fail)
        go_ret
        exact ⟨by rw [h1.out]; rfl, her.out⟩
theorem okc (k : Nat) (c : Nat) : okChar k c = ((decide (97 ≤ (c : Int)) && decide ((c : Int) ≤ 122)) || !(((k : Int) == 0) || (((c : Int) != 95) && (decide ((c : Int) < 48) || decide (57 < (c : Int)))))) := by
  unfold okChar
  rw [Bool.eq_iff_iff]
  simp only [Bool.or_eq_true, Bool.and_eq_true, Bool.not_eq_true', Bool.or_eq_false_iff, Bool.and_eq_false_iff, bne_iff_ne, beq_iff_eq, beq_eq_false_iff_ne, bne_eq_false_iff_eq, decide_eq_true_eq, decide_eq_false_iff_not, ne_eq]
  omega
set_option maxRecDepth 100000 in
set_option maxHeartbeats 4000000 in
theorem rname_any (s : ByteArray) (w : World) (hs : s.size ≤ maxLen) : Calls Try.prog 75 #[.string s] w (Ret (.bool (nameB s)) w) := by
  have hs' := hs
  unfold maxLen at hs'
  go_enter Try.func75, Try.ntmps75
  go_wp2_with (fail)
  go_loopw [3] (fun i wr => ∃ k : Nat, k ≤ s.size ∧ i = .int .i64 k ∧ Hid (Ext w wr) ∧ Hid (∀ j, j < k → okChar j (s.data.toList.getD j 0).toNat = true)) (fun i _ => s.size - (intOf i).toNat)
  case atStart => exact ⟨0, Nat.zero_le _, rfl, Ext.refl _, fun j h => by omega⟩
  case round =>
    obtain ⟨k, hk, rfl, her, hz⟩ := hrel
    by_cases hlt : k < s.size
    · have hi0 : (0 : Int) ≤ (k : Int) := by omega
      have hi1 : (k : Int) < (s.size : Int) := by omega
      have hsi := Lib.hid (sidx s k hlt)
      have hoc := okc k s[k].toNat
      have hyes : Hid (okChar k s[k].toNat = true → ∀ j, j < k + 1 → okChar j (s.data.toList.getD j 0).toNat = true) := fun h j hj => by
        by_cases q : j < k
        · exact hz.out j q
        · obtain rfl : j = k := by omega
          rw [← hsi.out]; exact h
      have hno : Hid (okChar k s[k].toNat = false → nameB s = false) := fun h => by
        unfold nameB
        rw [nameCh_false _ k (by rw [len_data]; exact hlt) (by rw [← hsi.out]; exact h)]; rfl
      obtain ⟨z, hzz⟩ : ∃ z, z = okChar k s[k].toNat := ⟨_, rfl⟩
      rw [← hzz] at hyes hno hoc
      have HOC := Lib.hid hoc
      clear hoc hzz
      cases A : decide (97 ≤ (s[k].toNat : Int)) <;> cases B : decide ((s[k].toNat : Int) ≤ 122) <;> cases C : ((k : Int) == 0) <;> cases D : ((s[k].toNat : Int) != 95) <;> cases E : decide ((s[k].toNat : Int) < 48) <;> cases F : decide (57 < (s[k].toNat : Int))
      all_goals
        have hc := HOC.out
        rw [A, B, C, D, E, F] at hc
        simp only [Bool.and_true, Bool.and_false, Bool.or_true, Bool.or_false, Bool.not_true, Bool.not_false, Bool.true_and, Bool.false_and, Bool.true_or, Bool.false_or] at hc
        subst hc
        go_wp2_with (fail)
        first
        | exact ⟨⟨k + 1, by omega, by go_num, her, hyes.out (by simp)⟩, by simp [intOf]; omega⟩
        | (go_ret; exact ⟨by rw [hno.out (by simp)]; rfl, her.out⟩)
    · obtain rfl : k = s.size := by omega
      have hc : nameCh s.data.toList = true := nameCh_true _ fun j hj => hz.out j (by rw [← len_data]; exact hj)
      have hp : Hid (nameB s = (decide (1 ≤ (s.size : Int)) && decide ((s.size : Int) ≤ 20))) := by
        rw [Hid]; unfold nameB
        rw [hc, Bool.eq_iff_iff]
        simp only [Bool.and_eq_true, bne_iff_ne, ne_eq, decide_eq_true_eq, true_and]; omega
      clear hc
      cases T1 : decide (1 ≤ (s.size : Int))
      · have h1 : Hid (nameB s = false) := by rw [Hid, hp.out, T1]; rfl
        go_wp2_with (fail)
        go_ret
        exact ⟨by rw [h1.out]; rfl, her.out⟩
      · have h1 : Hid (nameB s = decide ((s.size : Int) ≤ 20)) := by rw [Hid, hp.out, T1]; rfl
        go_wp2_with (fail)
        go_ret
        exact ⟨by rw [h1.out]; rfl, her.out⟩
end Go.Proofs.Ytlahejakcgoheaa
end
section
/-
  Walks of the reference: Bytes.
-/
set_option linter.unusedVariables false
set_option linter.unusedSimpArgs false
namespace Go.Proofs.Ytlahejakcgoheaa
open Go.RowKit
set_option maxRecDepth 100000 in
set_option maxHeartbeats 1000000 in
theorem rbytes_any (x n : Nat) (w : World) (hx : x < 18446744073709551616) (hn : n ≤ 8) : Calls Try.prog 59 #[u64 x, .int .i64 n] w (RetB (numB x n) w) := by
  have HXX := Lib.hid hx
  go_enter Try.func59, Try.ntmps59
  go_upto_region 2 with fail
  generalize hw1 : World.alloc _ _ = w1
  obtain ⟨he1, o1, hz1⟩ := alloc1 hw1
  have HO : Hid (OwnB w1 w.heap.size (.slice (some ⟨w.heap.size, 0, none⟩) 0 0) []) := .inr ⟨w.heap.size, 0, #[], (0, 0), rfl, Nat.le_refl _, o1, by simp, by simp [maxLen], by simp, by simp [rowB], .inl rfl⟩
  have HE := Lib.hid he1
  clear hw1 o1 hz1 he1 hx
  go_wp2_with (fail)
  go_loopw [5, 6] (fun out i wr => ∃ r : Nat, r ≤ n ∧ i = .int .i64 ((r : Int) - 1) ∧ Hid (Ext w wr) ∧ Hid (∃ pre, OwnB wr w.heap.size out pre ∧ pre ++ numB x r = numB x n)) (fun _ i _ => (intOf i + 1).toNat)
  case atStart => exact ⟨n, Nat.le_refl _, by go_num, HE.out, [], HO.out, rfl⟩
  case round =>
    obtain ⟨r, hr, rfl, he, ho⟩ := hrel
    obtain ⟨pre, hop, hpre⟩ := ho.out
    have HOP := Lib.hid hop; have HPRE := Lib.hid hpre
    clear ho hop hpre
    cases r with
    | zero =>
      obtain ⟨a5, c5, rfl⟩ := HOP.out.slice
      have hend : Hid (pre = numB x n) := by rw [Hid, ← HPRE.out]; simp [numB]
      go_wp2_with (fail)
      go_ret
      refine ⟨a5, c5, by rw [hend.out]; rfl, he.out, ?_⟩
      have := HOP.out
      rw [hend.out] at this
      exact this
    | succ r =>
      have hi : ((r + 1 : Nat) : Int) - 1 = (r : Int) := by omega
      rw [hi]
      have hr0 : (0 : Int) ≤ (r : Int) := by omega
      obtain ⟨z, hz⟩ : ∃ z : UInt8, z = UInt8.ofNat (x / 2 ^ (8 * r)) := ⟨_, rfl⟩
      have hzi : (x : Int) / 2 ^ (8 * r) % 256 = ((z.toNat : Nat) : Int) := by
        rw [hz, UInt8.toNat_ofNat']
        simp
      have yb : Byts (wr.alloc (.cells #[.int .u8 ((x : Int) / 2 ^ (8 * r) % 256)] 5)) (some ⟨wr.heap.size, 0, none⟩) [z] := by
        rw [hzi]; exact byts_lit (bs := [z]) (heap_new _ _)
      have hxa := (Ext.refl wr).alloc (.cells #[.int .u8 ((x : Int) / 2 ^ (8 * r) % 256)] 5)
      have hpl : pre.length ≤ n := by
        have h1 := congrArg List.length HPRE.out
        rw [List.length_append, numB_len, numB_len] at h1; omega
      have hap := app_bytes (wr.alloc (.cells #[.int .u8 ((x : Int) / 2 ^ (8 * r) % 256)] 5)) w.heap.size 23 _ pre [z] (some ⟨wr.heap.size, 0, none⟩) 1 (HOP.out.ext hxa) yb (by simp; omega) (by have := he.out.size; have := hxa.size; omega)
      have hpr2 : (pre ++ [z]) ++ numB x r = numB x n := by
        rw [← HPRE.out, numB, hz, List.append_assoc]; rfl
      have HAPP := Lib.hid hap; have HXA := Lib.hid (he.out.trans hxa); have HLT := Lib.hid HOP.out.lt; have HPR2 := Lib.hid hpr2
      clear hap yb hxa hz hzi hpl hpr2
      go_wp2_with (first | (at_builtin; refine wpList_app _ rfl _ _ 23 rfl _ HAPP.out ?_; clear HAPP; rintro v' w2 ⟨ho5, hg5, -⟩; have HO5 := Lib.hid ho5; have HE5 := Lib.hid (grown_ext HXA.out hg5 (fun k hk => (HLT.out k hk).1)); clear ho5 hg5) | fail)
      go_roundw
      case rel => exact ⟨r, by omega, by go_num, HE5, _, HO5.out, HPR2.out⟩
      case measure => simp [intOf]
set_option maxRecDepth 100000 in
set_option maxHeartbeats 1000000 in
theorem rpad_any (s : ByteArray) (w : World) (hs : s.size ≤ 2000) : Calls Try.prog 96 #[.string s] w (RetB (padB s.data.toList) w) := by
  have hb : Calls Try.prog 59 #[.int .u64 s.size, .int .i64 2] w (RetB (numB s.size 2) w) := rbytes_any s.size 2 w (by omega) (by omega)
  have HB := Lib.hid hb
  clear hb
  go_enter Try.func96, Try.ntmps96
  go_wp2_with (fail)
  (with_reducible refine HB.out.mono ?_); rintro e w1 ⟨a1, c1, rfl, he1, ho1⟩
  rw [numB_len] at ho1 ⊢
  obtain ⟨e2, o2, z2⟩ := bytesW_facts w1 s (by unfold maxLen; omega)
  have hap := app_bytes (bytesW w1 s) w.heap.size 23 _ (numB s.size 2) s.data.toList (some ⟨w1.heap.size, 0, none⟩) (bytesC w1 s) (by rw [← numB_len s.size 2] at ho1; exact ho1.ext e2) o2.byts.1 (by rw [numB_len]; simp; omega) (by have := he1.size; have := e2.size; omega)
  rw [len_data] at hap
  have HAPP := Lib.hid hap; have HLT := Lib.hid ho1.lt; have HE := Lib.hid (he1.trans e2)
  clear hap ho1 he1 e2 o2 z2 HB
  go_wp2_with (first | (at_builtin; refine wpList_app _ rfl _ _ 23 rfl _ HAPP.out ?_; clear HAPP; rintro v' w2 ⟨ho5, hg5, -⟩; have HO5 := Lib.hid ho5; have HE5 := Lib.hid (grown_ext HE.out hg5 (fun k hk => (HLT.out k hk).1)); clear ho5 hg5) | fail)
  go_loopw [3] (fun out wr => Hid (Ext w wr) ∧ Hid (∃ j, j ≤ padN s.size - (s.size + 2) ∧ OwnB wr w.heap.size out (numB s.size 2 ++ s.data.toList ++ List.replicate j 0))) (fun out _ => padN s.size - (match out with | .slice _ n _ => n | _ => 0))
  case atStart => exact ⟨HE5.out, 0, Nat.zero_le _, by simpa using HO5.out⟩
  case round =>
    obtain ⟨he, ho⟩ := hrel
    obtain ⟨j, hj, hop⟩ := ho.out
    obtain ⟨bs, hbs⟩ : ∃ bs, bs = numB s.size 2 ++ s.data.toList ++ List.replicate j 0 := ⟨_, rfl⟩
    have hL : bs.length = s.size + 2 + j := by rw [hbs]; simp [numB_len]; omega
    rw [← hbs] at hop
    obtain ⟨a5, c5, rfl⟩ := hop.slice
    obtain ⟨L, hLL⟩ : ∃ L, L = bs.length := ⟨_, rfl⟩
    rw [← hLL] at hop hL ⊢
    have HLL := Lib.hid hLL; have HBS := Lib.hid hbs; have HOP := Lib.hid hop
    clear hLL hbs hop ho
    have hp := padN_ge s.size
    have hp2 : padN s.size = (s.size + 33) / 32 * 32 := rfl
    obtain ⟨D, hD⟩ : ∃ D, D = padN s.size := ⟨_, rfl⟩
    rw [← hD] at hp hp2 hj
    have HD := Lib.hid hD
    clear hD
    cases T : ((L : Int) % 32 != 0)
    · have hend : Hid (bs = padB s.data.toList) := by
        have h1 : L % 32 = 0 := by rw [bne_eq_false_iff_eq] at T; omega
        have h2 : j = D - (s.size + 2) := by omega
        rw [Hid, HBS.out, padB, len_data, h2, HD.out]
      go_wp2_with (fail)
      go_ret
      refine ⟨a5, c5, by rw [← hend.out, ← HLL.out]; rfl, he.out, ?_⟩
      have := HOP.out
      rw [HLL.out, hend.out] at this
      exact this
    · have h1 : j < D - (s.size + 2) := by
        have h3 : L % 32 ≠ 0 := by rw [bne_iff_ne] at T; omega
        omega
      have yb : Byts (wr.alloc (.cells #[.int .u8 0] 5)) (some ⟨wr.heap.size, 0, none⟩) [0] := byts_lit (bs := [0]) (heap_new _ _)
      have hxa := (Ext.refl wr).alloc (.cells #[.int .u8 0] 5)
      have hap2 := app_bytes (wr.alloc (.cells #[.int .u8 0] 5)) w.heap.size 23 _ bs [0] (some ⟨wr.heap.size, 0, none⟩) 1 (by have := HOP.out; rw [HLL.out] at this; exact this.ext hxa) yb (by rw [← HLL.out]; simp; omega) (by have := he.out.size; have := hxa.size; omega)
      rw [← HLL.out] at hap2
      have hrep : bs ++ [0] = numB s.size 2 ++ s.data.toList ++ List.replicate (j + 1) 0 := by
        rw [HBS.out, List.replicate_succ', List.append_assoc]
      rw [hrep] at hap2
      have HAPP := Lib.hid hap2; have HXA := Lib.hid (he.out.trans hxa); have HLT := Lib.hid HOP.out.lt
      have hm : Hid (∀ w' B v, OwnB w' B v (numB s.size 2 ++ s.data.toList ++ List.replicate (j + 1) 0) → ∃ a c, v = .slice a (L + 1) c) := fun w' B v h => by
        obtain ⟨a, c, e⟩ := h.slice
        refine ⟨a, c, ?_⟩
        rw [e, ← hrep, List.length_append, ← HLL.out]; rfl
      clear hap2 yb hxa hrep
      go_wp2_with (first | (at_builtin; refine wpList_app _ rfl _ _ 23 rfl _ HAPP.out ?_; clear HAPP; rintro v' w2 ⟨ho5, hg5, -⟩; have HO6 := Lib.hid ho5; have HE6 := Lib.hid (grown_ext HXA.out hg5 (fun k hk => (HLT.out k hk).1)); clear ho5 hg5) | fail)
      obtain ⟨a6, c6, rfl⟩ := hm.out _ _ _ HO6.out
      go_roundw
      case rel => exact ⟨HE6, j + 1, by rw [← HD.out]; omega, HO6.out⟩
      case measure => rw [← HD.out]; simp; omega
end Go.Proofs.Ytlahejakcgoheaa
end
