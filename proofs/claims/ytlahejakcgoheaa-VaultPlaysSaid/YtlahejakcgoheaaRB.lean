/-
  Walks of the reference: Key, Cipher.
-/
import Derived.Test.YtlahejakcgoheaaRA
import Derived.Test.YtlahejakcgoheaaWD
set_option linter.unusedVariables false
set_option linter.unusedSimpArgs false
namespace Go.Proofs.Ytlahejakcgoheaa
open Go.RowKit
theorem keyN_ref (n p : ByteArray) : hbs (nh 1) (n.data.toList ++ [0] ++ p.data.toList) = keyN n p := by
  rw [hbs_append, hbs_append, hbs_one]; rfl
set_option maxRecDepth 100000 in
set_option maxHeartbeats 1000000 in
theorem rkey_any (n p : ByteArray) (w : World) (hn : n.size ≤ 1000000) (hp : p.size ≤ 1000000) : Calls Try.prog 17 #[.string n, .string p] w (Ret (u64 (keyN n p)) w) := by
  obtain ⟨e1, o1, z1⟩ := bytesW_facts w n (by unfold maxLen; omega)
  have x1 := (Ext.refl (bytesW w n)).alloc (.cells #[.int .u8 0] 5)
  have y1 : Byts ((bytesW w n).alloc (.cells #[.int .u8 0] 5)) (some ⟨w.heap.size + 1, 0, none⟩) [0] := byts_lit (bs := [0]) (by rw [← z1]; exact heap_new _ _)
  have happ := app_bytes ((bytesW w n).alloc (.cells #[.int .u8 0] 5)) w.heap.size 23 _ n.data.toList [0] (some ⟨w.heap.size + 1, 0, none⟩) 1 (o1.ext x1) y1 (by simp; omega) (by have := e1.size; have := x1.size; omega)
  have HAPP := Lib.hid happ
  have HE1 := Lib.hid (e1.trans x1)
  have HN := Lib.hid hn; have HP := Lib.hid hp
  clear happ o1 x1 y1 e1 hn hp z1
  go_enter Try.func17, Try.ntmps17
  go_wp2_with (first | (at_builtin; refine wpList_app _ rfl _ _ 23 rfl _ HAPP.out ?_; clear HAPP; rintro v' w2 ⟨ho5, hg5, -⟩; have he5 := grown_ext HE1.out hg5 (by intro k hk; simp [Value.ownBlock] at hk; omega); obtain ⟨a4, c4, rfl⟩ := ho5.slice; have hz2 := bytesW_facts w2 p (by have := HP.out; unfold maxLen; omega); have hap2 := app_bytes (bytesW w2 p) w.heap.size 23 _ (n.data.toList ++ [0]) p.data.toList (some ⟨w2.heap.size, 0, none⟩) (bytesC w2 p) (ho5.ext hz2.1) hz2.2.1.byts.1 (by have := HN.out; have := HP.out; simp; omega) (by have := hz2.1.size; have := he5.size; omega); have HAP2 := Lib.hid hap2; have HL5 := Lib.hid ho5.lt; have HE5 := Lib.hid (he5.trans hz2.1); clear ho5 hg5 he5 hz2 hap2; obtain ⟨m1, hm1⟩ : ∃ m, m = (n.data.toList ++ [0]).length := ⟨_, rfl⟩; rw [← hm1] at HAP2 HL5 ⊢; have hps : p.data.toList.length = p.size := (by simp); rw [hps] at HAP2; clear hm1 hps) | (at_builtin; refine wpList_app _ rfl _ _ 23 rfl _ HAP2.out ?_; clear HAP2; rintro v' w3 ⟨ho6, hg6, -⟩; have he6 := grown_ext HE5.out hg6 (fun k hk => (HL5.out k hk).1); obtain ⟨a5, c5, rfl⟩ := ho6.slice; have hdg : Calls Try.prog 15 #[.int .u64 1, .slice a5 (n.data.toList ++ [0] ++ p.data.toList).length c5] w3 (Ret (u64 (hbs (nh 1) (n.data.toList ++ [0] ++ p.data.toList))) w3) := rdigest_any 1 a5 (n.data.toList ++ [0] ++ p.data.toList) c5 w3 ho6.byts.1 (by have := HN.out; have := HP.out; simp; omega); rw [keyN_ref] at hdg; obtain ⟨m2, hm2⟩ : ∃ m, m = (n.data.toList ++ [0] ++ p.data.toList).length := ⟨_, rfl⟩; rw [← hm2] at hdg ⊢; have HDG := Lib.hid hdg; have HE6 := Lib.hid he6; clear hdg he6 ho6 hg6 hm2) | fail)
  (with_reducible refine HDG.out.mono ?_); rintro e w4 ⟨rfl, he7⟩
  go_wp2_with (fail)
  go_ret
  exact ⟨rfl, HE6.out.trans he7⟩
theorem ciph_cut (key : Nat) (xs : List UInt8) (k g : Nat) (hk : k < xs.length) (h : ciph key xs = ciph key (xs.take k) ++ ciph g (xs.drop k)) :
    ciph key (xs.take (k + 1)) = ciph key (xs.take k) ++ [xs.getD k 0 ^^^ UInt8.ofNat (nxt g / 72057594037927936)] ∧ ciph key xs = ciph key (xs.take (k + 1)) ++ ciph (nxt g) (xs.drop (k + 1)) := by
  have hd : xs.drop k = xs.getD k 0 :: xs.drop (k + 1) := by
    rw [List.drop_eq_getElem_cons hk]; simp [hk]
  rw [hd, ciph] at h
  have hpre : ∀ (a b : List UInt8), ciph key (a ++ b) = ciph key a ++ (ciph key (a ++ b)).drop a.length := fun a b => by
    have : ∀ (a b : List UInt8) (q : Nat), ciph q (a ++ b) = ciph q a ++ (ciph q (a ++ b)).drop a.length := by
      intro a
      induction a with
      | nil => intro b q; simp [ciph]
      | cons z a ih => intro b q; simp only [List.cons_append, ciph, List.length_cons, List.drop_succ_cons]; rw [← ih]
    exact this a b key
  have h1 := hpre (xs.take (k + 1)) (xs.drop (k + 1))
  rw [List.take_append_drop] at h1
  have hl : (ciph key (xs.take (k + 1))).length = k + 1 := by rw [ciph_len, List.length_take]; omega
  have hl2 : (ciph key (xs.take k)).length = k := by rw [ciph_len, List.length_take]; omega
  have h2 : ciph key (xs.take (k + 1)) = (ciph key xs).take (k + 1) := by
    obtain ⟨D, hD⟩ : ∃ D, ciph key xs = ciph key (xs.take (k + 1)) ++ D := ⟨_, h1⟩
    rw [hD, List.take_append_of_le_length (by omega)]
    exact (List.take_of_length_le (by omega)).symm
  have h3 : (ciph key xs).take (k + 1) = ciph key (xs.take k) ++ [xs.getD k 0 ^^^ UInt8.ofNat (nxt g / 72057594037927936)] := by
    rw [h, List.take_append, hl2, List.take_of_length_le (by omega), show k + 1 - k = 1 by omega]; rfl
  refine ⟨h2.trans h3, ?_⟩
  rw [h2, h3, h, List.append_assoc]; rfl
set_option maxRecDepth 100000 in
set_option maxHeartbeats 1000000 in
theorem rcipher_any (key : Nat) (a : Option Addr) (xs : List UInt8) (c : Nat) (w : World) (hk : key < 18446744073709551616) (hx : Byts w a xs) (hl : xs.length ≤ 1000000) : Calls Try.prog 19 #[u64 key, .slice a xs.length c] w (RetB (ciph key xs) w) := by
  obtain ⟨n, hn⟩ : ∃ n, n = xs.length := ⟨_, rfl⟩
  have HX := Lib.hid hx; have HN := Lib.hid hn; have HL := Lib.hid hl
  have hnb : n ≤ 1000000 := by rw [hn]; exact hl
  rw [← hn]
  clear hx hn hl
  go_enter Try.func19, Try.ntmps19
  go_upto_region 2 with fail
  generalize hw1 : World.alloc _ _ = w1
  obtain ⟨he1, o1, hz1⟩ := alloc1 hw1
  have HO : Hid (OwnB w1 w.heap.size (.slice (some ⟨w.heap.size, 0, none⟩) 0 0) []) := .inr ⟨w.heap.size, 0, #[], (0, 0), rfl, Nat.le_refl _, o1, by simp, by simp [maxLen], by simp, by simp [rowB], .inl rfl⟩
  have HE := Lib.hid he1
  clear hw1 o1 hz1 he1
  go_wp2_with (fail)
  go_loopw [0, 5, 6] (fun s out i wr => ∃ k g : Nat, k ≤ n ∧ i = .int .i64 k ∧ s = u64 g ∧ Hid (ciph key xs = ciph key (xs.take k) ++ ciph g (xs.drop k)) ∧ Hid (Ext w wr) ∧ Hid (OwnB wr w.heap.size out (ciph key (xs.take k)))) (fun _ _ i _ => n - (intOf i).toNat)
  case atStart => exact ⟨0, key, Nat.zero_le _, rfl, rfl, rfl, HE.out, HO.out⟩
  case round =>
    obtain ⟨k, g, hk, rfl, rfl, hg, he, ho⟩ := hrel
    by_cases hlt : k < n
    · have hlx : k < xs.length := by rw [← HN.out]; exact hlt
      obtain ⟨b, o, rfl, c0⟩ := HX.out.at k hlx
      have c1 := fun W (e : Ext wr W) => c0 W (he.out.trans e)
      have e2 : bth xs k = (xs.getD k 0).toNat := rfl
      obtain ⟨x, hx2⟩ : ∃ x, x = xs.getD k 0 := ⟨_, rfl⟩
      rw [e2, ← hx2] at c1
      clear c0 e2
      obtain ⟨h1, h2⟩ := ciph_cut key xs k g hlx hg.out
      rw [← hx2] at h1
      have H1 := Lib.hid h1; have H2 := Lib.hid h2; have HX2 := Lib.hid hx2
      have E0 := Ext.refl wr
      have hi0 : (0 : Int) ≤ (k : Int) := by omega
      have hi1 : (k : Int) < (n : Int) := by omega
      clear h1 h2 hx2
      go_upto_region 6 with fail
      simp only [wrap_nxt]
      have hxb := xor_byte x (nxt g)
      obtain ⟨z, hz⟩ : ∃ z : UInt8, z = x ^^^ UInt8.ofNat (nxt g / 72057594037927936) := ⟨_, rfl⟩
      rw [← hz] at hxb H1
      have yb : Byts (wr.alloc (.cells #[.int .u8 ((z.toNat : Nat) : Int)] 5)) (some ⟨wr.heap.size, 0, none⟩) [z] := byts_lit (bs := [z]) (heap_new _ _)
      have hxa := (Ext.refl wr).alloc (.cells #[.int .u8 ((z.toNat : Nat) : Int)] 5)
      have hap := app_bytes (wr.alloc (.cells #[.int .u8 ((z.toNat : Nat) : Int)] 5)) w.heap.size 23 u5 (ciph key (xs.take k)) [z] (some ⟨wr.heap.size, 0, none⟩) 1 (ho.out.ext hxa) yb (by rw [ciph_len, List.length_take]; have := HL.out; simp; omega) (by have := he.out.size; have := hxa.size; omega)
      rw [← H1.out] at hap
      have HAPP := Lib.hid hap; have HXA := Lib.hid (he.out.trans hxa); have HLT := Lib.hid ho.out.lt
      clear hap yb hxa hz
      go_wp2_with (first | (at_builtin; refine wpList_app _ rfl _ _ 23 rfl _ HAPP.out ?_; clear HAPP; rintro v' w2 ⟨ho5, hg5, -⟩; have HO5 := Lib.hid ho5; have HE5 := Lib.hid (grown_ext HXA.out hg5 (fun k hk => (HLT.out k hk).1)); clear ho5 hg5) | fail)
      go_roundw
      case rel => exact ⟨k + 1, nxt g, by omega, by go_num, rfl, H2, HE5, HO5⟩
      case measure => simp [intOf]; omega
    · obtain rfl : k = n := by omega
      have hend : Hid (ciph key (xs.take k) = ciph key xs) := by rw [Hid, List.take_of_length_le (by rw [HN.out]; exact Nat.le_refl _)]
      obtain ⟨a5, c5, rfl⟩ := ho.out.slice
      go_wp2_with (fail)
      go_ret
      refine ⟨a5, c5, by rw [hend.out]; rfl, he.out, ?_⟩
      have h1 := ho.out
      rw [hend.out] at h1
      exact h1
end Go.Proofs.Ytlahejakcgoheaa
