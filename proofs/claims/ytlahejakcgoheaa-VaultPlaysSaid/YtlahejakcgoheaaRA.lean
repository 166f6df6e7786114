/-
  Walks of the reference: times, Digest, Key, Bytes, Cipher.
-/
import Derived.Test.YtlahejakcgoheaaWN
set_option linter.unusedVariables false
set_option linter.unusedSimpArgs false
namespace Go.Proofs.Ytlahejakcgoheaa
open Go.RowKit
theorem and1 (b : Nat) (hb : b < 18446744073709551616) : bits .and .u64 (b : Int) 1 = ((b % 2 : Nat) : Int) := by
  have h := Go.bits_and_u64_nat b 1 hb (by omega)
  rw [Nat.and_one_is_mod] at h
  exact h
theorem addw {a b : Nat} (ha : a < p61) (hb : b < p61) : IntKind.u64.wrap ((a : Int) + (b : Int)) = ((a + b : Nat) : Int) := by
  unfold p61 at *
  rw [IntKind.wrap_u64]; omega
theorem remp (n : Nat) : (n : Int) % 2305843009213693951 = ((n % p61 : Nat) : Int) := by unfold p61; omega
theorem rem2 (x y : Nat) : ((x : Int) + (y : Int)) % 2305843009213693951 = (((x + y) % p61 : Nat) : Int) := by unfold p61; omega
theorem mod_in (s x k : Nat) : (s + x % p61 * k) % p61 = (s + x * k) % p61 := by
  rw [Nat.add_mod, Nat.mul_mod, Nat.mod_mod, ← Nat.mul_mod, ← Nat.add_mod]
theorem half_even (a b s : Nat) (e : b % 2 = 0) : (s + (a + a) % p61 * (b / 2)) % p61 = (s + a * b) % p61 := by
  rw [mod_in]
  congr 2
  have : b = 2 * (b / 2) := by omega
  calc (a + a) * (b / 2) = a * (2 * (b / 2)) := by rw [← Nat.two_mul, Nat.mul_comm 2 a, Nat.mul_assoc]
    _ = a * b := by rw [← this]
theorem half_odd (a b s : Nat) (e : b % 2 = 1) : ((s + a) % p61 + (a + a) % p61 * (b / 2)) % p61 = (s + a * b) % p61 := by
  rw [mod_in, Nat.add_mod, Nat.mod_mod, ← Nat.add_mod]
  congr 1
  have : b = 2 * (b / 2) + 1 := by omega
  calc s + a + (a + a) * (b / 2) = s + a * (2 * (b / 2) + 1) := by rw [← Nat.two_mul, Nat.mul_comm 2 a, Nat.mul_assoc, Nat.mul_add a, Nat.mul_one]; omega
    _ = s + a * b := by rw [← this]
set_option maxRecDepth 100000 in
set_option maxHeartbeats 1000000 in
theorem times_any (a b : Nat) (w : World) (ha : a < p61) (hb : b < 18446744073709551616) : Calls Try.prog 46 #[u64 a, u64 b] w fun e w' => e = .returned (u64 (a * b % p61)) ∧ w = w' := by
  have HA := Lib.hid ha; have HB := Lib.hid hb
  obtain ⟨g, hg⟩ : ∃ g, g = a * b % p61 := ⟨_, rfl⟩
  have HG := Lib.hid hg
  rw [← hg]
  clear ha hb hg
  go_enter Try.func46, Try.ntmps46
  go_wp2_with (fail)
  go_loopw [0, 1, 5] (fun x y s wr => ∃ a' b' s' : Nat, x = u64 a' ∧ y = u64 b' ∧ s = u64 s' ∧ Hid (a' < p61 ∧ b' < 18446744073709551616 ∧ s' < p61 ∧ (s' + a' * b') % p61 = g) ∧ wr = w) (fun _ y _ _ => (intOf y).toNat)
  case atStart => exact ⟨a, b, 0, rfl, rfl, rfl, ⟨HA.out, HB.out, by decide, by rw [HG.out, Nat.zero_add]⟩, rfl⟩
  case round =>
    obtain ⟨a', b', s', rfl, rfl, rfl, hh, rfl⟩ := hrel
    have hw2 := addw hh.out.1 hh.out.1
    by_cases hb0 : 0 < b'
    · have hb1 : (0 : Int) < (b' : Int) := by omega
      rcases Nat.mod_two_eq_zero_or_one b' with e | e
      · have hand : bits .and .u64 (b' : Int) 1 = 0 := by rw [and1 b' hh.out.2.1, e]; rfl
        have he := Lib.hid e
        clear e
        go_wp2_with (fail)
        go_roundw
        case rel =>
          refine ⟨(a' + a') % p61, b' / 2, s', by simp only [rem2], by simp, rfl, ⟨Nat.mod_lt _ (by decide), by have := hh.out.2.1; omega, hh.out.2.2.1, ?_⟩, trivial⟩
          rw [half_even _ _ _ he.out]; exact hh.out.2.2.2
        case measure => simp [intOf]; omega
      · have hand : bits .and .u64 (b' : Int) 1 = 1 := by rw [and1 b' hh.out.2.1, e]; rfl
        have hw3 := addw hh.out.2.2.1 hh.out.1
        have he := Lib.hid e
        clear e
        go_wp2_with (fail)
        go_roundw
        case rel =>
          refine ⟨(a' + a') % p61, b' / 2, (s' + a') % p61, by simp only [rem2], by simp, by simp only [rem2], ⟨Nat.mod_lt _ (by decide), by have := hh.out.2.1; omega, Nat.mod_lt _ (by decide), ?_⟩, trivial⟩
          rw [half_odd _ _ _ he.out]; exact hh.out.2.2.2
        case measure => simp [intOf]; omega
    · have hb1 : ¬ (0 : Int) < (b' : Int) := by omega
      have hs : Hid (s' = g) := by
        have := hh.out
        have e : b' = 0 := by omega
        rw [Hid, ← this.2.2.2, e, Nat.mul_zero, Nat.add_zero, Nat.mod_eq_of_lt this.2.2.1]
      go_wp2_with (fail)
      go_ret
      exact ⟨by rw [hs.out]; rfl, rfl⟩
theorem hb_ref (h b : Nat) : (h * 257 % p61 + b + 1) % p61 = hb h b := by
  unfold hb
  rw [Nat.add_assoc, Nat.add_mod, Nat.mod_mod, ← Nat.add_mod, ← Nat.add_assoc]
theorem wrap_lt {z : Int} (h0 : 0 ≤ z) (h1 : z < 18446744073709551616) : IntKind.u64.wrap z = z := by rw [IntKind.wrap_u64]; omega
set_option maxRecDepth 100000 in
set_option maxHeartbeats 1000000 in
theorem rdigest_any (s : Nat) (a : Option Addr) (xs : List UInt8) (c : Nat) (w : World) (hx : Byts w a xs) (hl : xs.length ≤ 9223372036854775807) : Calls Try.prog 15 #[u64 s, .slice a xs.length c] w (Ret (u64 (hbs (nh s) xs)) w) := by
  obtain ⟨n, hn⟩ : ∃ n, n = xs.length := ⟨_, rfl⟩
  have HX := Lib.hid hx; have HN := Lib.hid hn
  rw [← hn] at hl ⊢
  clear hx hn
  go_enter Try.func15, Try.ntmps15
  go_wp2_with (fail)
  simp only [rem_p61]
  go_loopw [5, 6] (fun s' i wr => ∃ k g : Nat, k ≤ n ∧ i = .int .i64 k ∧ s' = u64 g ∧ Hid (g < p61 ∧ g = hbs (nh s) (xs.take k)) ∧ Ext w wr) (fun _ i _ => n - (intOf i).toNat)
  case atStart => exact ⟨0, nh s, Nat.zero_le _, rfl, rfl, ⟨nh_lt _, rfl⟩, Ext.refl w⟩
  case round =>
    obtain ⟨k, g, hk, rfl, rfl, hg, he⟩ := hrel
    by_cases hlt : k < n
    · obtain ⟨b, o, rfl, c0⟩ := HX.out.at k (by rw [← HN.out]; exact hlt)
      have c0r := fun W (e : Ext wr W) => c0 W (he.trans e)
      have hr0 := Ext.refl wr
      have hi0 : (0 : Int) ≤ (k : Int) := by omega
      have hi1 : (k : Int) < (n : Int) := by omega
      have ht : ∀ W, Calls Try.prog 46 #[u64 g, .int .u64 257] W (Ret (u64 (g * 257 % p61)) W) := fun W => (times_any g 257 W hg.out.1 (by omega)).mono fun _ _ q => ⟨q.1, by rw [q.2]; exact Ext.refl _⟩
      have HT := Lib.hid ht
      have hnew : Hid (hb g (bth xs k) < p61 ∧ hb g (bth xs k) = hbs (nh s) (xs.take (k + 1))) := ⟨hb_lt _ _, by rw [hbs_take _ _ _ (by rw [← HN.out]; exact hlt), ← hg.out.2]⟩
      have hres := hb_ref g (bth xs k)
      have hbl := bth_lt xs k
      have htl : g * 257 % p61 < p61 := Nat.mod_lt _ (by decide)
      obtain ⟨t, hT⟩ : ∃ t, t = g * 257 % p61 := ⟨_, rfl⟩
      rw [← hT] at HT hres htl
      obtain ⟨z, hz⟩ : ∃ z, z = bth xs k := ⟨_, rfl⟩
      rw [← hz] at hres hbl c0r hnew
      have hw1 : IntKind.u64.wrap ((t : Int) + (z : Int)) = (t : Int) + (z : Int) := by unfold p61 at htl; exact wrap_lt (by omega) (by omega)
      have hw2 : IntKind.u64.wrap ((t : Int) + (z : Int) + 1) = (t : Int) + (z : Int) + 1 := by unfold p61 at htl; exact wrap_lt (by omega) (by omega)
      have hend : ((t : Int) + (z : Int) + 1) % 2305843009213693951 = ((hb g z : Nat) : Int) := by rw [← hres]; exact remp (t + z + 1)
      have HRES := Lib.hid hend
      clear ht hend hres hT hz htl c0
      go_upto_region 5 with fail
      refine wp_region_ext (by kernel_rfl) (by kernel_rfl) hr0 ?_
      repeat (first | go_big_quiet_step ((first | (go_at_call 46; exact Calls.later (HT.out _)))) | quiet_step ((first | (go_at_call 46; exact Calls.later (HT.out _)))))
      refine wpQuiet_nil ?_
      rintro _ ⟨nq, rfl⟩
      have he2 := he.trans nq.ok
      go_wp2_with (fail)
      go_roundw
      case rel => exact ⟨k + 1, hb g z, by omega, by go_num, by rw [HRES.out], hnew, he2⟩
      case measure => simp [intOf]; omega
    · obtain rfl : k = n := by omega
      have hs : Hid (g = hbs (nh s) xs) := by
        rw [Hid, hg.out.2, List.take_of_length_le (by rw [← HN.out]; exact Nat.le_refl _)]
      go_wp2_with (fail)
      go_ret
      exact ⟨by rw [hs.out]; rfl, he⟩
theorem hbs_one (h : Nat) : hbs h [0] = hb h 0 := by rw [hbs_cons, hbs_nil]; simp
theorem byts_lit {w : World} {g : Nat} {bs : List UInt8} {fz : Nat × Nat} (h : w.heap[g]? = some (.cells (rowB bs).toArray 5 fz)) : Byts w (some ⟨g, 0, none⟩) bs := by
  refine .inr ⟨g, 0, rfl, fun i hi => ?_⟩
  rw [Nat.zero_add, World.cell?, h]
  simp only [Option.isSome_none, Bool.false_eq_true, if_false]
  rw [List.getElem?_toArray, rowB_get bs i hi]
end Go.Proofs.Ytlahejakcgoheaa
