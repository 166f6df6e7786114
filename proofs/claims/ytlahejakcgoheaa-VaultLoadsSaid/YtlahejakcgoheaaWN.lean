/-
  Texts merged: N4, N5, B2, N6, B3.
-/
import Derived.Test.YtlahejakcgoheaaWB
import Derived.Laws.BitsAllLaws
import Derived.Lib.LazyBuf
section
/-
  Walks: digests of bytes, texts, numbers; the key.
-/
set_option linter.unusedVariables false
set_option linter.unusedSimpArgs false
namespace Go.Proofs.Ytlahejakcgoheaa
open Go.RowKit
theorem hbs_take (h : Nat) (xs : List UInt8) (k : Nat) (hk : k < xs.length) : hbs h (xs.take (k + 1)) = hb (hbs h (xs.take k)) (bth xs k) := by
  rw [List.take_succ_eq_append_getElem hk, hbs_append, bth_eq _ _ hk]; rfl
set_option maxHeartbeats 400000 in
theorem bytes_any (h : Nat) (a : Option Addr) (xs : List UInt8) (c : Nat) (w : World) (hh : h < p61) (hx : Byts w a xs) (hl : xs.length ≤ 9223372036854775807) : Calls Try.prog 45 #[u64 h, .slice a xs.length c] w (Ret (u64 (hbs h xs)) w) := by
  have HX := Lib.hid hx; clear hx
  have HH := Lib.hid hh; clear hh
  go_enter Try.func45, Try.ntmps45
  go_wp2_with (fail)
  go_loopw [0, 9] (fun s i wr => ∃ k g : Nat, k ≤ xs.length ∧ i = .int .i64 k ∧ s = u64 g ∧ Hid (g = hbs h (xs.take k)) ∧ Ext w wr) (fun _ i _ => xs.length - (intOf i).toNat)
  case atStart => exact ⟨0, h, Nat.zero_le _, rfl, rfl, rfl, Ext.refl w⟩
  case round =>
    obtain ⟨k, g, hk, rfl, rfl, hg, he⟩ := hrel
    by_cases hlt : k < xs.length
    · obtain ⟨b, o, rfl, c0⟩ := HX.out.at k hlt
      have hgl : Hid (g < p61) := by rw [Hid, hg.out]; exact hbs_lt _ _ HH.out
      go_wp2_with (first | (go_at_call 48; (with_reducible refine (byte_any _ _ hgl.out (bth_lt _ _) _).mono ?_); rintro e w1 ⟨rfl, he1⟩))
      go_roundw
      case rel => exact ⟨k + 1, _, by omega, by go_num, rfl, by rw [Hid, hbs_take _ _ _ hlt, ← hg.out], he.trans he1⟩
      case measure => simp [intOf]; omega
    · obtain rfl : k = xs.length := by omega
      go_wp2_with (fail)
      go_ret
      refine ⟨?_, he⟩
      rw [hg.out, List.take_length]; rfl
set_option maxHeartbeats 400000 in
theorem digest_any (s : Nat) (a : Option Addr) (xs : List UInt8) (c : Nat) (w : World) (hx : Byts w a xs) (hl : xs.length ≤ 9223372036854775807) : Calls Try.prog 14 #[u64 s, .slice a xs.length c] w (Ret (u64 (hbs (nh s) xs)) w) := by
  have HX := Lib.hid hx; clear hx
  have HN := Lib.hid (nh_lt s)
  go_enter Try.func14, Try.ntmps14
  go_wp2_with (first | (go_at_call 44; (with_reducible refine (newHash_any _ _).mono ?_); rintro e w' ⟨rfl, rfl⟩) | (go_at_call 45; (with_reducible refine (bytes_any _ _ _ _ _ HN.out HX.out hl).mono ?_); rintro e w1 ⟨rfl, he1⟩))
  go_ret
  exact ⟨rfl, he1⟩
theorem size_max {s : ByteArray} (h : s.size ≤ maxLen) : s.data.toList.length ≤ 9223372036854775807 := by rw [len_data]; unfold maxLen at h; omega
set_option maxHeartbeats 400000 in
theorem text_any (h : Nat) (s : ByteArray) (w : World) (hh : h < p61) (hs : s.size ≤ maxLen) : Calls Try.prog 47 #[u64 h, .string s] w (Ret (u64 (hbs h s.data.toList)) w) := by
  obtain ⟨e1, o1, -⟩ := bytesW_facts w s hs
  have hb := bytes_any h _ _ (bytesC w s) _ hh o1.byts.1 (size_max hs)
  rw [len_data] at hb
  have HB := Lib.hid hb
  have HE := Lib.hid e1
  clear hb o1 e1 hh hs
  go_enter Try.func47, Try.ntmps47
  go_wp2_with (first | (go_at_call 45; (with_reducible refine (HB.out).mono ?_); rintro e w1 ⟨rfl, he1⟩))
  go_ret
  exact ⟨rfl, HE.out.trans he1⟩
theorem byte0_any (h : Nat) (hh : h < p61) (w : World) : Calls Try.prog 48 #[u64 h, .int .u8 0] w (Ret (u64 (hb h 0)) w) := byte_any h 0 hh (by omega) w
def keyN (name pass : ByteArray) : Nat := hbs (hb (hbs (nh 1) name.data.toList) 0) pass.data.toList
theorem keyN_lt (n p : ByteArray) : keyN n p < p61 := hbs_lt _ _ (hb_lt _ _)
set_option maxHeartbeats 400000 in
theorem key_any (n p : ByteArray) (w : World) (hn : n.size ≤ maxLen) (hp : p.size ≤ maxLen) : Calls Try.prog 16 #[.string n, .string p] w (Ret (u64 (keyN n p)) w) := by
  have h0 : Calls Try.prog 44 #[.int .u64 1] w fun e w' => e = .returned (u64 (nh 1)) ∧ w = w' := newHash_any 1 w
  have h1 := fun w => text_any (nh 1) n w (nh_lt _) hn
  have h2 := fun w => byte0_any (hbs (nh 1) n.data.toList) (hbs_lt _ _ (nh_lt _)) w
  have h3 := fun w => text_any (hb (hbs (nh 1) n.data.toList) 0) p w (hb_lt _ _) hp
  have H0 := Lib.hid h0; have H1 := Lib.hid h1; have H2 := Lib.hid h2; have H3 := Lib.hid h3
  clear h0 h1 h2 h3
  go_enter Try.func16, Try.ntmps16
  go_wp2_with (fail)
  (with_reducible refine H0.out.mono ?_); rintro e w' ⟨rfl, rfl⟩
  go_wp2_with (fail)
  (with_reducible refine (H1.out _).mono ?_); rintro e w1 ⟨rfl, he1⟩
  go_wp2_with (fail)
  (with_reducible refine (H2.out _).mono ?_); rintro e w2 ⟨rfl, he2⟩
  go_wp2_with (fail)
  (with_reducible refine (H3.out _).mono ?_); rintro e w3 ⟨rfl, he3⟩
  go_wp2_with (fail)
  go_ret
  exact ⟨rfl, (he1.trans he2).trans he3⟩
theorem ofNat_toNat (n : Nat) : (UInt8.ofNat n).toNat = n % 256 := by simp
theorem hbs_num (h x m : Nat) : hbs h (numB x (m + 1)) = hbs (hb h (x / 2 ^ (8 * m) % 256)) (numB x m) := by
  show hbs (hb h (UInt8.ofNat _).toNat) _ = _
  rw [ofNat_toNat]
theorem pow_8 (k : Nat) (hk : k < 8) : 2 ^ (8 * k) ≤ 72057594037927936 := by
  have : 8 * k ≤ 56 := by omega
  exact Nat.le_trans (Nat.pow_le_pow_right (by omega) this) (by decide)
set_option maxHeartbeats 400000 in
theorem number_any (h x n : Nat) (w : World) (hh : h < p61) (hx : x < 18446744073709551616) (hn : n ≤ 8) : Calls Try.prog 58 #[u64 h, u64 x, .int .i64 n] w (Ret (u64 (hbs h (numB x n))) w) := by
  have HH := Lib.hid hh; clear hh
  go_enter Try.func58, Try.ntmps58
  go_wp2_with (fail)
  go_loopw [0, 2] (fun s i wr => ∃ (k : Nat) (g : Nat), k ≤ n ∧ i = .int .i64 ((k : Int) - 1) ∧ s = u64 g ∧ Hid (g < p61 ∧ hbs g (numB x k) = hbs h (numB x n)) ∧ Ext w wr) (fun _ i _ => (intOf i + 1).toNat)
  case atStart => exact ⟨n, h, Nat.le_refl _, rfl, rfl, ⟨HH.out, rfl⟩, Ext.refl w⟩
  case round =>
    obtain ⟨k, g, hk, rfl, rfl, hg, he⟩ := hrel
    rcases Nat.eq_zero_or_pos k with hk0 | hk0
    · subst hk0
      have HG : g = hbs h (numB x n) := hg.out.2
      have HG2 := Lib.hid HG
      clear HG
      go_wp2_with (fail)
      go_ret
      exact ⟨by rw [HG2.out]; rfl, he⟩
    · obtain ⟨m, rfl⟩ : ∃ m, k = m + 1 := ⟨k - 1, by omega⟩
      have hb0 : ∀ W, Calls Try.prog 48 #[u64 g, .int .u8 ((x : Int) / 2 ^ (8 * m) % 256)] W (Ret (u64 (hb g (x / 2 ^ (8 * m) % 256))) W) := fun W => by
        have := byte_any g (x / 2 ^ (8 * m) % 256) hg.out.1 (Nat.mod_lt _ (by omega)) W
        have e : ((x / 2 ^ (8 * m) % 256 : Nat) : Int) = (x : Int) / 2 ^ (8 * m) % 256 := by simp only [Int.natCast_emod, Int.natCast_ediv, Int.natCast_pow, Int.cast_ofNat_Int]
        simp only [u8, e] at this
        exact this
      have HB := Lib.hid hb0
      clear hb0
      go_wp2_with (first | (go_at_call 48; (with_reducible refine (HB.out _).mono ?_); rintro e w1 ⟨rfl, he1⟩))
      go_roundw
      case rel => exact ⟨m, _, by omega, by simp, rfl, ⟨hb_lt _ _, by rw [← hbs_num]; exact hg.out.2⟩, he.trans he1⟩
      case measure => simp [intOf]
theorem number4_any (h x : Nat) (w : World) (hh : h < p61) (hx : x < 18446744073709551616) : Calls Try.prog 58 #[u64 h, u64 x, .int .i64 4] w (Ret (u64 (hbs h (numB x 4))) w) := number_any h x 4 w hh hx (by omega)
theorem number8_any (h x : Nat) (w : World) (hh : h < p61) (hx : x < 18446744073709551616) : Calls Try.prog 58 #[u64 h, u64 x, .int .i64 8] w (Ret (u64 (hbs h (numB x 8))) w) := number_any h x 8 w hh hx (by omega)
theorem newHash_ret (s : Nat) (w : World) : Calls Try.prog 44 #[u64 s] w (Ret (u64 (nh s)) w) := (newHash_any s w).mono fun _ _ ⟨he, hw⟩ => ⟨he, hw ▸ Ext.refl w⟩
theorem wrap_uw (n : Int) : IntKind.u64.wrap n = ((uw n : Nat) : Int) := by unfold uw; rw [IntKind.wrap_u64]; omega
/-- The same with a number of either sign. -/
theorem numI_any (h : Nat) (n : Int) (w : World) (hh : h < p61) : Calls Try.prog 58 #[u64 h, .int .u64 (IntKind.u64.wrap n), .int .i64 4] w (Ret (u64 (hbs h (numB (uw n) 4))) w) := by
  rw [wrap_uw]; exact number4_any h _ w hh (uw_lt n)
end Go.Proofs.Ytlahejakcgoheaa
end
section
/-
  Walks: the stream of a key; what is kept of a key.
-/
set_option linter.unusedVariables false
set_option linter.unusedSimpArgs false
namespace Go.Proofs.Ytlahejakcgoheaa
open Go.RowKit
def proofN (key : Nat) : Nat := hbs (nh 2) (numB key 8)
set_option maxHeartbeats 400000 in
theorem proof_any (key : Nat) (w : World) (hk : key < 18446744073709551616) : Calls Try.prog 66 #[u64 key] w (Ret (u64 (proofN key)) w) := by
  have h0 : Calls Try.prog 44 #[.int .u64 2] w fun e w' => e = .returned (u64 (nh 2)) ∧ w = w' := newHash_any 2 w
  have h1 : Calls Try.prog 58 #[u64 (nh 2), u64 key, .int .i64 8] w (Ret (u64 (proofN key)) w) := number_any (nh 2) key 8 w (nh_lt _) hk (by omega)
  have H0 := Lib.hid h0; have H1 := Lib.hid h1
  clear h0 h1
  go_enter Try.func66, Try.ntmps66
  go_wp2_with (fail)
  (with_reducible refine H0.out.mono ?_); rintro e w' ⟨rfl, rfl⟩
  go_wp2_with (fail)
  (with_reducible refine H1.out.mono ?_); rintro e w1 ⟨rfl, he1⟩
  go_wp2_with (fail)
  go_ret
  exact ⟨rfl, he1⟩
theorem wrap_nxt (k : Nat) : IntKind.u64.wrap (IntKind.u64.wrap ((k : Int) * 6364136223846793005) + 1442695040888963407) = ((nxt k : Nat) : Int) := by
  unfold nxt; simp only [IntKind.wrap_u64]; omega
theorem xor_byte (a : UInt8) (k : Nat) : bits .xor .u8 ((a.toNat : Nat) : Int) ((k : Int) / 72057594037927936 % 256) = (((a ^^^ UInt8.ofNat (k / 72057594037927936)).toNat : Nat) : Int) := by
  have h := u8_xor_nat a.toNat (k / 72057594037927936 % 256) (UInt8.toNat_lt _) (Nat.mod_lt _ (by omega))
  have e : ((k / 72057594037927936 % 256 : Nat) : Int) = (k : Int) / 72057594037927936 % 256 := by omega
  rw [e] at h
  rw [h, UInt8.toNat_xor, ofNat_toNat]
/-- The bytes as they stand after k of them. -/
def ciphTo (key : Nat) (xs : List UInt8) (k : Nat) : List UInt8 := (ciph key xs).take k ++ List.replicate (xs.length - k) 0
theorem ciph_drop (key : Nat) : ∀ (xs : List UInt8) (k g : Nat), (∃ pre, pre.length = k ∧ ciph key xs = pre ++ ciph g (xs.drop k)) → k < xs.length → (ciph key xs)[k]? = some (xs.getD k 0 ^^^ UInt8.ofNat (nxt g / 72057594037927936)) ∧
    ∃ pre, pre.length = k + 1 ∧ ciph key xs = pre ++ ciph (nxt g) (xs.drop (k + 1)) := by
  rintro xs k g ⟨pre, hp, he⟩ hk
  rw [List.drop_eq_getElem_cons hk] at he
  simp only [ciph] at he
  constructor
  · rw [he, List.getElem?_append_right (by omega), hp, Nat.sub_self]
    simp [hk]
  · exact ⟨pre ++ [xs[k] ^^^ UInt8.ofNat (nxt g / 72057594037927936)], by simp [hp], by rw [he]; simp⟩
theorem ciphTo_set (key : Nat) (xs : List UInt8) (k : Nat) (b : UInt8) (hk : k < xs.length) (h : (ciph key xs)[k]? = some b) : (ciphTo key xs k).set k b = ciphTo key xs (k + 1) := by
  unfold ciphTo
  have hl := ciph_len key xs
  have hk2 : k < (ciph key xs).length := by omega
  rw [List.take_succ_eq_append_getElem hk2]
  have hb : (ciph key xs)[k] = b := by rw [List.getElem?_eq_getElem hk2] at h; simpa using h
  rw [hb, List.set_append_right _ _ (by simp; omega)]
  have e1 : k - (List.take k (ciph key xs)).length = 0 := by simp; omega
  rw [e1, show xs.length - k = (xs.length - (k + 1)) + 1 by omega, List.replicate_succ]
  simp
theorem ciphTo_len (key : Nat) (xs : List UInt8) (k : Nat) (hk : k ≤ xs.length) : (ciphTo key xs k).length = xs.length := by
  unfold ciphTo; have := ciph_len key xs; simp; omega
theorem ciphTo_zero (key : Nat) (xs : List UInt8) : ciphTo key xs 0 = List.replicate xs.length 0 := by simp [ciphTo]
theorem ciphTo_all (key : Nat) (xs : List UInt8) : ciphTo key xs xs.length = ciph key xs := by
  simp [ciphTo]; rw [← ciph_len key xs, List.take_length]
set_option maxHeartbeats 1000000 in
theorem cipher_any (key : Nat) (a : Option Addr) (xs : List UInt8) (c : Nat) (w : World) (hk : key < 18446744073709551616) (hx : Byts w a xs) (hl : xs.length ≤ 140737488355328) : Calls Try.prog 13 #[u64 key, .slice a xs.length c] w (RetB (ciph key xs) w) := by
  have HX := Lib.hid hx; clear hx
  have hmk := fun W => run_madeB xs.length hl W
  go_enter Try.func13, Try.ntmps13
  go_wp2_with (fail)
  generalize hw1 : madeB _ _ = w1
  obtain ⟨he1, o1, hz1⟩ := madeB_facts hl hw1
  rw [← ciphTo_zero key xs] at o1
  have HO := Lib.hid o1
  have HZ := Lib.hid hz1
  clear hw1 o1 hmk hz1
  go_loopw [0, 13] (fun s i wr => ∃ k g : Nat, k ≤ xs.length ∧ i = .int .i64 k ∧ s = u64 g ∧ Hid (∃ pre : List UInt8, pre.length = k ∧ ciph key xs = pre ++ ciph g (xs.drop k)) ∧ Hid (Ext w wr) ∧ Hid (OwnB wr w.heap.size (.slice (some ⟨w.heap.size, 0, none⟩) xs.length xs.length) (ciphTo key xs k))) (fun _ i _ => xs.length - (intOf i).toNat)
  case atStart => exact ⟨0, key, Nat.zero_le _, rfl, rfl, ⟨[], rfl, rfl⟩, he1, HO.out⟩
  case round =>
    obtain ⟨k, g, hk, rfl, rfl, hg, he, ho⟩ := hrel
    by_cases hlt : k < xs.length
    · obtain ⟨b, o, rfl, c0⟩ := HX.out.at k hlt
      have c1 := c0 wr he.out
      have e2 : bth xs k = (xs.getD k 0).toNat := rfl
      obtain ⟨x, hx2⟩ : ∃ x, x = xs.getD k 0 := ⟨_, rfl⟩
      rw [e2, ← hx2] at c1
      clear c0 e2
      have HX2 := Lib.hid hx2
      clear hx2
      have f1 := ho.out.free k (by rw [ciphTo_len _ _ _ hk]; exact hlt)
      have d1 := ho.out.cell k (by rw [ciphTo_len _ _ _ hk]; exact hlt)
      obtain ⟨h1, h2⟩ := ciph_drop key xs k g hg.out hlt
      rw [← HX2.out] at h1
      have hs := ho.out.set (x ^^^ UInt8.ofNat (nxt g / 72057594037927936)) (j := k) (by rw [ciphTo_len _ _ _ hk]; exact hlt)
      rw [ciphTo_set key xs k _ hlt h1] at hs
      have hE2 := he.out.set (p := ⟨w.heap.size, k, none⟩) (by simp) (u8 (x ^^^ UInt8.ofNat (nxt g / 72057594037927936)).toNat)
      have H1 := Lib.hid h1; have H2 := Lib.hid h2; have HS := Lib.hid hs; have HE2 := Lib.hid hE2
      clear h1 h2 hs hE2
      go_wp2_with (fail)
      simp only [wrap_nxt, xor_byte]
      exact ⟨⟨k + 1, nxt g, by omega, by go_num, rfl, H2, HE2, HS⟩, by simp [intOf]; omega⟩
    · obtain rfl : k = xs.length := by omega
      rw [ciphTo_all] at ho
      have HL := Lib.hid (ciph_len key xs)
      go_wp2_with (fail)
      go_ret
      exact ⟨some ⟨w.heap.size, 0, none⟩, xs.length, by rw [HL.out]; rfl, he.out, by rw [HL.out]; exact ho.out⟩
end Go.Proofs.Ytlahejakcgoheaa
end
section
/-
  Base words: links in memory.
-/
set_option linter.unusedVariables false
set_option linter.unusedSimpArgs false
namespace Go.Proofs.Ytlahejakcgoheaa
open Go.RowKit
/-- A link, and where its Body lies. -/
structure Lv where
  l : Lk
  ba : Option Addr
  bc : Nat
abbrev lcells (x : Lv) : Array Value := #[.int .u8 (x.l.op : Int), .string x.l.cu, .string x.l.ki, .int .i64 x.l.nu, .int .i64 x.l.ve, .int .i64 x.l.da, .int .i64 x.l.un, .slice x.ba x.l.bo.length x.bc, .int .u64 (x.l.tag : Int), .int .u64 (x.l.ch : Int)]
abbrev lval (x : Lv) : Value := .agg (lcells x)
/-- What a link's parts are bounded by. -/
structure LkOk (l : Lk) : Prop where
  op : l.op < 256
  cu : l.cu.size ≤ maxLen
  ki : l.ki.size ≤ maxLen
  nu0 : -9223372036854775808 ≤ l.nu
  nu1 : l.nu ≤ 9223372036854775807
  ve0 : -9223372036854775808 ≤ l.ve
  ve1 : l.ve ≤ 9223372036854775807
  da0 : -9223372036854775808 ≤ l.da
  da1 : l.da ≤ 9223372036854775807
  un0 : -9223372036854775808 ≤ l.un
  un1 : l.un ≤ 9223372036854775807
  bo : l.bo.length ≤ 140737488355328
  tag : l.tag < 18446744073709551616
  ch : l.ch < 18446744073709551616
/-- A link in a block of its own. -/
def LinkAt (w : World) (b : Nat) (x : Lv) : Prop := w.heap[b]? = some (.cells (lcells x) 59 (0, 0)) ∧ Byts w x.ba x.l.bo
theorem LinkAt.ext {w w' : World} {b : Nat} {x : Lv} (h : LinkAt w b x) (e : Ext w w') : LinkAt w' b x := ⟨e.block h.1, h.2.ext e⟩
end Go.Proofs.Ytlahejakcgoheaa
end
section
/-
  Walks: the seal key, padding, shut, unshut.
-/
set_option linter.unusedVariables false
set_option linter.unusedSimpArgs false
namespace Go.Proofs.Ytlahejakcgoheaa
open Go.RowKit
set_option maxRecDepth 100000 in
set_option maxHeartbeats 1000000 in
theorem sealKey_any (key b : Nat) (x : Lv) (w : World) (hk : key < 18446744073709551616) (ho : LkOk x.l) (h : w.heap[b]? = some (.cells (lcells x) 59 (0, 0))) : Calls Try.prog 91 #[u64 key, .pointer (some ⟨b, 0, none⟩)] w (Ret (u64 (sealK key x.l)) w) := by
  obtain ⟨c0, c1, c2, c3, c4, c5, c6, c7, c8, c9⟩ := obj_cells10 h
  have h0 := fun w => newHash_ret key w
  have h1 := fun w => byte_any (nh key) x.l.op (nh_lt _) ho.op w
  have h2 := fun w => numI_any (hb (nh key) x.l.op) x.l.nu w (hb_lt _ _)
  have h3 := fun w => numI_any (hbs (hb (nh key) x.l.op) (numB (uw x.l.nu) 4)) x.l.ve w (hbs_lt _ _ (hb_lt _ _))
  have h4 := fun w => text_any (sk0 key x.l) x.l.ki w (sk0_lt _ _) ho.ki
  rw [show hbs (hbs (hb (nh key) x.l.op) (numB (uw x.l.nu) 4)) (numB (uw x.l.ve) 4) = sk0 key x.l from rfl] at h3
  have H0 := Lib.hid h0; have H1 := Lib.hid h1; have H2 := Lib.hid h2; have H3 := Lib.hid h3; have H4 := Lib.hid h4
  clear h0 h1 h2 h3 h4 h ho
  have hr0 := Ext.refl w
  go_enter Try.func91, Try.ntmps91
  go_wp2_with (fail)
  refine wp_region_ext (by kernel_rfl) (by kernel_rfl) hr0 ?_
  repeat (first | go_big_quiet_step ((first | (go_at_call 44; exact Calls.later (H0.out _)) | (go_at_call 48; exact Calls.later (H1.out _)) | (go_at_call 58; first | with_reducible exact Calls.later (H2.out _) | with_reducible exact Calls.later (H3.out _)))) | quiet_step ((first | (go_at_call 44; exact Calls.later (H0.out _)) | (go_at_call 48; exact Calls.later (H1.out _)) | (go_at_call 58; first | with_reducible exact Calls.later (H2.out _) | with_reducible exact Calls.later (H3.out _)))))
  refine wpQuiet_nil ?_
  rintro _ ⟨nq, rfl⟩
  have he := nq.ok
  cases T1 : ((x.l.op : Int) == 5)
  · have hs : Hid (sealK key x.l = sk0 key x.l) := by
      have : ¬ x.l.op = 5 := by simp at T1; omega
      simp [Hid, sealK, this]
    go_wp2_with (fail)
    go_ret
    exact ⟨by rw [hs.out]; rfl, he⟩
  · have hs : Hid (sealK key x.l = hbs (sk0 key x.l) x.l.ki.data.toList) := by
      have : x.l.op = 5 := by simp at T1; omega
      simp [Hid, sealK, this]
    go_wp2_with (first | (go_at_call 47; (with_reducible refine (H4.out _).mono ?_); rintro e w1 ⟨rfl, he1⟩))
    go_ret
    exact ⟨by rw [hs.out]; rfl, he.trans he1⟩
theorem OwnB.setCells {w : World} {B g n c o : Nat} {xs : List UInt8} (h : OwnB w B (.slice (some ⟨g, 0, none⟩) n c) xs) (ys : List UInt8) (ho : o + ys.length ≤ xs.length) :
    OwnB (w.setCells g o (rowB ys)) B (.slice (some ⟨g, 0, none⟩) n c) (xs.take o ++ ys ++ xs.drop (o + ys.length)) := by
  rcases h with ⟨h, rfl⟩ | ⟨g', cap, cur, fz, hv, hg, hh, hnc, hcm, hs, ht, hf⟩
  · cases h
  · have hv2 := hv
    simp only [Value.slice.injEq, Option.some.injEq, Addr.mk.injEq] at hv
    obtain ⟨⟨rfl, _⟩, rfl, rfl⟩ := hv
    have hl : (xs.take o ++ ys ++ xs.drop (o + ys.length)).length = xs.length := by simp; omega
    refine .inr ⟨g, c, _, fz, by rw [hl], hg, setCells_block g 5 fz (rowB ys) o w cur hh (by rw [rowB_len]; omega), by rw [hl]; exact hnc, hcm, by simp [rowB_len]; omega, ?_, hf⟩
    rw [hl]
    simp only [rowB_append, rowB_len]
    have e1 : rowB (xs.take o) = cur.toList.take o := by
      rw [show rowB (xs.take o) = (rowB xs).take o by simp [rowB, List.map_take], ← ht, List.take_take]; congr 1; omega
    have e2 : rowB (xs.drop (o + ys.length)) = (cur.toList.drop (o + ys.length)).take (xs.length - (o + ys.length)) := by
      rw [show rowB (xs.drop (o + ys.length)) = (rowB xs).drop (o + ys.length) by simp [rowB, List.map_drop], ← ht, List.drop_take]
    rw [e1, e2, List.take_append, List.take_of_length_le (by simp [rowB_len]; omega)]
    congr 2
    simp [rowB_len]; omega
theorem copy_text {w : World} {B g n c o d dc : Nat} {xs : List UInt8} (ty : TypeId) (s : ByteArray) (h : OwnB w B (.slice (some ⟨g, 0, none⟩) n c) xs) (ho : o + s.size ≤ xs.length) (hd : s.size ≤ d) :
    (Builtin.copy_ #[23, 9] ty #[.slice (some ⟨g, o, none⟩) d dc, .string s]).run Try.prog w = .ok (.int .i64 (s.size : Int)) (w.setCells g o (rowB s.data.toList)) := by
  obtain ⟨i0, hi, hz0, hz1, hz2⟩ := info_parts info5
  have hx := Go.run_copy_string (P := Try.prog) w 23 9 ty 5 g o d dc s Try.underlying23 (fun w => by simp [Go.sizeOf, typeInfo, hi, hz1]) hd
    (fun j hj => by rw [h.cell (o + j) (by omega)]; rfl) (fun j hj => h.free (o + j) (by omega))
  exact hx
set_option maxRecDepth 100000 in
set_option maxHeartbeats 1000000 in
theorem pad_any (s : ByteArray) (w : World) (hs : s.size ≤ 100000000000000) : Calls Try.prog 92 #[.string s] w (RetB (padB s.data.toList) w) := by
  have hn : (s.data.toList).length = s.size := len_data s
  obtain ⟨N, hN⟩ : ∃ N, N = padN s.size := ⟨_, rfl⟩
  have h32 : 32 ≤ N := hN ▸ padN_32 _
  have hge : s.size + 2 ≤ N := hN ▸ padN_ge _
  have hle : N ≤ 100000000000033 := by have := padN_lt s.size; omega
  have hmk := fun W => run_madeB N (by omega) W
  have HN := Lib.hid hN
  clear hN
  go_enter Try.func92, Try.ntmps92
  go_upto_region 2 with fail
  rw [show ((s.size : Int) + 2 + 32 - 1) / 32 * 32 = (N : Int) by rw [HN.out]; unfold padN; omega]
  go_upto_region 3 with fail
  generalize hw1 : madeB _ _ = w1
  obtain ⟨he1, o1, hz1⟩ := madeB_facts (by omega) hw1
  clear hw1 hmk
  have d0 := o1.cell 0 (by simp; omega)
  have d1 := o1.cell 1 (by simp; omega)
  have f0 := o1.free 0 (by simp; omega)
  have f1 := o1.free 1 (by simp; omega)
  have HO := Lib.hid o1
  have HZ := Lib.hid hz1
  have HE := Lib.hid he1
  clear o1 hz1 he1
  go_upto_region 4 with fail
  have e0 : (s.size : Int) / 256 % 256 = (((UInt8.ofNat (s.size / 256)).toNat : Nat) : Int) := by rw [ofNat_toNat]; omega
  have e1 : (s.size : Int) % 256 = (((UInt8.ofNat s.size).toNat : Nat) : Int) := by rw [ofNat_toNat]; omega
  rw [e0, e1]
  have o2 := ((HO.out.set (UInt8.ofNat (s.size / 256)) (j := 0) (by simp; omega)).set (UInt8.ofNat s.size) (j := 1) (by simp; omega))
  have he2 := (HE.out.set (p := ⟨w.heap.size, 0, none⟩) (Nat.le_refl _) (u8 (UInt8.ofNat (s.size / 256)).toNat)).set (p := ⟨w.heap.size, 1, none⟩) (Nat.le_refl _) (u8 (UInt8.ofNat s.size).toNat)
  clear e0 e1 d0 d1 f0 f1
  generalize hw2 : World.setCell _ _ _ = w2 at o2 he2 ⊢
  clear hw2
  have hcp : (Builtin.copy_ #[23, 9] 3 #[.slice (some ⟨w.heap.size, 2, none⟩) (N - 2) (N - 2), .string s]).run Try.prog w2 = .ok (.int .i64 (s.size : Int)) (w2.setCells w.heap.size 2 (rowB s.data.toList)) :=
    copy_text 3 s o2 (by simp; omega) (by omega)
  have o3 := o2.setCells s.data.toList (o := 2) (by simp; omega)
  have he3 : Ext w (w2.setCells w.heap.size 2 (rowB s.data.toList)) := by
    obtain ⟨s1, s2, s3, s4⟩ := setCells_size w.heap.size (rowB s.data.toList) 2 w2
    exact ⟨s2.trans he2.os, s3.trans he2.tape, s4.trans he2.output, by rw [s1]; exact he2.size, fun k hk => (setCells_other _ _ _ _ k (by omega)).trans (Below.block he2 k hk)⟩
  have e3 : List.take 2 (((List.replicate N 0).set 0 (UInt8.ofNat (s.size / 256))).set 1 (UInt8.ofNat s.size)) ++ s.data.toList ++ List.drop (2 + s.data.toList.length) (((List.replicate N 0).set 0 (UInt8.ofNat (s.size / 256))).set 1 (UInt8.ofNat s.size)) = padB s.data.toList := by
    obtain ⟨M, rfl⟩ : ∃ M, N = M + 2 := ⟨N - 2, by omega⟩
    rw [hn, Nat.add_comm 2 s.size]
    simp only [padB, hn, ← HN.out, List.replicate_succ, List.set_cons_zero, List.set_cons_succ, List.take_succ_cons, List.take_zero, List.drop_succ_cons, List.drop_replicate, numB]
    simp
  rw [e3] at o3
  have HO3 := Lib.hid o3; have HE3 := Lib.hid he3
  have HP := Lib.hid (padB_len s.data.toList)
  clear o2 he2 o3 he3 e3
  go_wp2_with (fail)
  go_ret
  refine ⟨some ⟨w.heap.size, 0, none⟩, N, ?_, HE3.out, ?_⟩
  · rw [HP.out, hn, ← HN.out]; rfl
  · rw [HP.out, hn, ← HN.out]; exact HO3.out
end Go.Proofs.Ytlahejakcgoheaa
end
section
/-
  Base words: cuts of byte slices.
-/
set_option linter.unusedVariables false
set_option linter.unusedSimpArgs false
namespace Go.Proofs.Ytlahejakcgoheaa
open Go.RowKit
/-- Where a slice begins that is cut at k. -/
def cutA (a : Option Addr) (k c : Nat) : Option Addr := if c = k then a else a.map (·.add k)
theorem size5 (w : World) : (Go.sizeOf 5).run Try.prog w = .ok 1 w := by
  obtain ⟨i0, hi, hz0, hz1, hz2⟩ := info_parts info5
  simp [Go.sizeOf, typeInfo, hi, hz1]
theorem run_cut_lo (a : Option Addr) (len cap : Nat) (l : Int) (h0 : 0 ≤ l) (h1 : l ≤ len) (w : World) :
    (Instr.slice 23 (.slice a len cap) (some (.int .i64 l)) none none).run Try.prog w = .ok (.slice (cutA a l.toNat cap) (len - l.toNat) (cap - l.toNat)) w := by
  rw [run_slice_l (P := Try.prog) w 23 a len cap (by simp [Program.elem, Try.underlying23]) .i64 l h0 h1]
  have e : Try.prog.elem 23 = 5 := by simp [Program.elem, Try.underlying23]
  rw [e, size5]
  simp [Result.andThen, sliced, cutA]
theorem run_cut_lh (a : Option Addr) (len cap : Nat) (l h : Int) (h0 : 0 ≤ l) (h1 : l ≤ h) (h2 : h ≤ cap) (w : World) :
    (Instr.slice 23 (.slice a len cap) (some (.int .i64 l)) (some (.int .i64 h)) none).run Try.prog w = .ok (.slice (cutA a l.toNat cap) (h.toNat - l.toNat) (cap - l.toNat)) w := by
  rw [run_slice_lh (P := Try.prog) w 23 a len cap (by simp [Program.elem, Try.underlying23]) .i64 .i64 l h h0 h1 h2]
  have e : Try.prog.elem 23 = 5 := by simp [Program.elem, Try.underlying23]
  rw [e, size5]
  simp [Result.andThen, sliced, cutA]
@[go_sem ↓] theorem run_cutAt_lo (a : Option Addr) (len cap : Nat) (l : Int) (h0 : 0 ≤ l) (h1 : l ≤ len) (w : World) :
    (Instr.sliceAt 23 (.slice a len cap) (some (.int .i64 l)) none none).run Try.prog w = .ok (.slice (cutA a l.toNat cap) (len - l.toNat) (cap - l.toNat)) w := by
  rw [run_sliceAt_slice (P := Try.prog) w 23 _ _ _ _ (by simp [Program.elem, Try.underlying23])]; exact run_cut_lo a len cap l h0 h1 w
@[go_sem ↓] theorem run_cutAt_lh (a : Option Addr) (len cap : Nat) (l h : Int) (h0 : 0 ≤ l) (h1 : l ≤ h) (h2 : h ≤ cap) (w : World) :
    (Instr.sliceAt 23 (.slice a len cap) (some (.int .i64 l)) (some (.int .i64 h)) none).run Try.prog w = .ok (.slice (cutA a l.toNat cap) (h.toNat - l.toNat) (cap - l.toNat)) w := by
  rw [run_sliceAt_slice (P := Try.prog) w 23 _ _ _ _ (by simp [Program.elem, Try.underlying23])]; exact run_cut_lh a len cap l h h0 h1 h2 w
theorem bth_drop (xs : List UInt8) (k i : Nat) : bth (xs.drop k) i = bth xs (k + i) := by simp [bth, List.getD]
theorem bth_take (xs : List UInt8) (k i : Nat) (h : i < k) : bth (xs.take k) i = bth xs i := by simp [bth, List.getD, List.getElem?_take, h]
theorem Byts.cut {w : World} {a : Option Addr} {xs : List UInt8} (h : Byts w a xs) (k c : Nat) (hk : k ≤ xs.length) (hc : xs.length ≤ c) : Byts w (cutA a k c) (xs.drop k) := by
  by_cases he : k = xs.length
  · left; rw [he, List.drop_length]
  · rcases h with rfl | ⟨b, o, rfl, h2⟩
    · simp at he hk; omega
    · right
      refine ⟨b, o + k, ?_, fun i hi => ?_⟩
      · unfold cutA; rw [if_neg (by omega)]; simp [Addr.add_lit]; 
      · rw [List.length_drop] at hi
        rw [bth_drop, Nat.add_assoc]; exact h2 (k + i) (by omega)
theorem Byts.take {w : World} {a : Option Addr} {xs : List UInt8} (h : Byts w a xs) (k : Nat) : Byts w a (xs.take k) := by
  rcases h with rfl | ⟨b, o, rfl, h2⟩
  · left; simp
  · right
    refine ⟨b, o, rfl, fun i hi => ?_⟩
    rw [List.length_take] at hi
    rw [bth_take _ _ _ (by omega)]; exact h2 i (by omega)
theorem or_bytes (a b : Nat) (ha : a < 256) (hb : b < 256) : bits .or .i64 ((a : Int) * 256) (b : Int) = ((a * 256 + b : Nat) : Int) := by
  rw [bits_join .i64 32 (by decide) (fun n h0 h1 => by rw [IntKind.wrap_i64]; omega) 8 _ _ (by omega) (by omega) (by omega) (by omega) (by omega) (by omega)]
  omega
/-- The text of a padded form, and whether it is one. -/
def unpV (xs : List UInt8) : Value := .tuple #[.string ⟨(unpT xs).toArray⟩, .bool (unpOk xs)]
set_option maxRecDepth 100000 in
set_option maxHeartbeats 1000000 in
theorem unpad_any (a : Option Addr) (xs : List UInt8) (c : Nat) (w : World) (hx : Byts w a xs) (hc : xs.length ≤ c) (hl : xs.length ≤ 140737488355328) : Calls Try.prog 93 #[.slice a xs.length c] w (Ret (unpV xs) w) := by
  have HX := Lib.hid hx; clear hx
  by_cases h32 : xs.length < 32
  · have hv : Hid (unpV xs = .tuple #[.string ⟨[].toArray⟩, .bool false]) := by
      have : unpOk xs = false := by simp [unpOk]; intro h; omega
      simp [Hid, unpV, unpT, this]
    go_enter Try.func93, Try.ntmps93
    go_wp2_with (fail)
    go_ret2
    exact ⟨by rw [hv.out]; rfl, Ext.refl w⟩
  · obtain ⟨b, o, rfl, c0⟩ := HX.out.at 0 (by omega)
    obtain ⟨b', o', e, c1⟩ := HX.out.at 1 (by omega)
    simp only [Option.some.injEq, Addr.mk.injEq, and_true] at e
    obtain ⟨rfl, rfl⟩ := e
    have hr0 := Ext.refl w
    have b0 := bth_lt xs 0
    have b1 := bth_lt xs 1
    simp only [Nat.add_zero] at c0
    go_enter Try.func93, Try.ntmps93
    go_wp2_with (fail)
    refine wp_region_ext (by kernel_rfl) (by kernel_rfl) hr0 ?_
    repeat (first | go_big_quiet_step ((fail)) | quiet_step ((fail)))
    refine wpQuiet_nil ?_
    rintro _ ⟨nq, rfl⟩
    have he := nq.ok
    rw [or_bytes _ _ b0 b1]
    obtain ⟨n, hn⟩ : ∃ n, n = bth xs 0 * 256 + bth xs 1 := ⟨_, rfl⟩
    have hn2 : n < 65536 := by omega
    rw [← hn]
    have hu : Hid (n = unpN xs) := hn
    clear hn c0 c1 b0 b1
    have hbad : ∀ x : Bool, Hid (x = false) → unpOk xs = x → Hid (unpV xs = .tuple #[.string ⟨[].toArray⟩, .bool false]) := fun x hx hv => by
      have : unpOk xs = false := hv.trans hx.out
      simp [Hid, unpV, unpT, this]
    cases T1 : decide (2000 < (n : Int))
    · cases T2 : decide ((xs.length : Int) < (n : Int) + 2)
      · cases T3 : decide (32 ≤ (xs.length : Int) - (n : Int) - 2)
        · have h2 : n + 2 ≤ xs.length := by simp at T2; omega
          have hb1 : (n : Int) + 2 ≤ (xs.length : Int) := by omega
          have hb0 : (0 : Int) ≤ (n : Int) + 2 := by omega
          have hcut := Lib.hid ((HX.out.cut (n + 2) c h2 hc).ext he)
          have hok : Hid (unpOk xs = (xs.drop (n + 2)).all (· == 0)) := by
            have t1 : unpN xs ≤ 2000 := by rw [← hu.out]; simp at T1; omega
            have t2 : unpN xs + 2 ≤ xs.length := by rw [← hu.out]; exact h2
            have t3 : xs.length - unpN xs - 2 < 32 := by rw [← hu.out]; simp at T3; omega
            simp [Hid, unpOk, t1, t2, t3, show 32 ≤ xs.length by omega, hu.out]
          obtain ⟨a2, ha2⟩ : ∃ a2, a2 = cutA (some ⟨b, o, none⟩) (n + 2) c := ⟨_, rfl⟩
          obtain ⟨ys, hys⟩ : ∃ ys, ys = xs.drop (n + 2) := ⟨_, rfl⟩
          have hyl : xs.length - (n + 2) = ys.length := by rw [hys, List.length_drop]
          rw [← ha2, ← hys] at hcut
          rw [← hys] at hok
          have HA := Lib.hid ha2; have HYL := Lib.hid hyl
          have hyl2 : ys.length ≤ 140737488355328 := by omega
          have htx := run_stringOf nq.val (cutA (some ⟨b, o, none⟩) 2 c) ((xs.drop 2).take n) (c - 2) (((HX.out.ext he).cut 2 c (by omega) hc).take n)
          rw [show ((xs.drop 2).take n).length = n by rw [List.length_take, List.length_drop]; omega] at htx
          have hb2 : (n : Int) + 2 ≤ (c : Int) := by omega
          have hb3 : (2 : Int) ≤ (n : Int) + 2 := by omega
          have HT := Lib.hid htx
          clear hys ha2 hyl htx
          go_wp2_with (fail)
          rw [← HA.out, HYL.out]
          go_loop [42] (fun i => ∃ k : Nat, k ≤ ys.length ∧ i = .int .i64 k ∧ Hid (∀ j, j < k → bth ys j = 0)) (fun i => ys.length - (intOf i).toNat)
          case atStart => exact ⟨0, Nat.zero_le _, rfl, fun j hj => by omega⟩
          case round =>
            obtain ⟨k, hk, rfl, hz⟩ := hrel
            by_cases hlt : k < ys.length
            · obtain ⟨b2, o2, rfl, c0⟩ := hcut.out.at k hlt
              have c1 := c0 nq.val (Ext.refl _)
              clear c0
              cases T4 : ((bth ys k : Int) == 0)
              · have hv := hbad _ rfl (by
                  rw [hok.out, List.all_eq_false]
                  refine ⟨ys[k], List.getElem_mem hlt, ?_⟩
                  rw [bth_eq _ _ hlt] at T4
                  simp at T4 ⊢
                  intro e; rw [e] at T4; simp at T4)
                have T5 : ((bth ys k : Int) != 0) = true := by simp [bne, T4]
                go_wp2_with (fail)
                go_ret2
                exact ⟨by rw [hv.out]; rfl, he⟩
              · have T5 : ((bth ys k : Int) != 0) = false := by simp [bne, T4]
                have hz2 : Hid (∀ j, j < k + 1 → bth ys j = 0) := fun j hj => by
                  by_cases e : j = k
                  · subst e; simp at T4; omega
                  · exact hz.out j (by omega)
                go_wp2_with (fail)
                go_round
                case rel => exact ⟨k + 1, by omega, by go_num, hz2⟩
                case measure => simp [intOf]; omega
            · obtain rfl : k = ys.length := by omega
              have hv : Hid (unpV xs = .tuple #[.string ⟨((xs.drop 2).take n).toArray⟩, .bool true]) := by
                have : unpOk xs = true := by
                  rw [hok.out, List.all_eq_true]
                  intro x hx
                  obtain ⟨j, hj, rfl⟩ := List.getElem_of_mem hx
                  have := hz.out j hj
                  rw [bth_eq _ _ hj] at this
                  simp only [beq_iff_eq]
                  exact UInt8.toNat_inj.1 this
                rw [Hid, unpV, unpT, this, hu.out]; rfl
              have htx := HT.out
              go_wp2_with (fail)
              go_ret2
              exact ⟨by rw [hv.out]; rfl, he⟩
        · have hv := hbad _ rfl (by
            have t1 : ¬ xs.length - unpN xs - 2 < 32 := by rw [← hu.out]; simp at T3; omega
            simp [unpOk, t1])
          go_wp2_with (fail)
          go_ret2
          exact ⟨by rw [hv.out]; rfl, he⟩
      · have hv := hbad _ rfl (by
          have t1 : ¬ unpN xs + 2 ≤ xs.length := by rw [← hu.out]; simp at T2; omega
          simp [unpOk, t1])
        go_wp2_with (fail)
        go_ret2
        exact ⟨by rw [hv.out]; rfl, he⟩
    · have hv := hbad _ rfl (by
        have t1 : ¬ unpN xs ≤ 2000 := by rw [← hu.out]; simp at T1; omega
        simp [unpOk, t1])
      go_wp2_with (fail)
      go_ret2
      exact ⟨by rw [hv.out]; rfl, he⟩
end Go.Proofs.Ytlahejakcgoheaa
end
