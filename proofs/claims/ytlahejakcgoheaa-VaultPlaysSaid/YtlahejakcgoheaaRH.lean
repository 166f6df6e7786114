/-
  Walks of the reference: Shares.
-/
import Derived.Test.YtlahejakcgoheaaRG
set_option linter.unusedVariables false
set_option linter.unusedSimpArgs false
namespace Go.Proofs.Ytlahejakcgoheaa
open Go.RowKit
def madeL (fr : ByteArray) (ls : List Lk) : Nat := ls.foldl (fun n l => if (!((l.op : Int) != 5) && decide (l.cu = fr)) = true then n + 1 else n) 0
def lastL (fr : ByteArray) (num : Int) (tu : ByteArray) (ls : List Lk) : List Lk := ls.foldl (fun r l => if ((!((l.op : Int) != 5) && decide (l.cu = fr)) && ((l.nu == num) && decide (l.ki = tu))) = true then [l] else r) []
theorem madeL_snoc (fr : ByteArray) (ls : List Lk) (l : Lk) : madeL fr (ls ++ [l]) = if (!((l.op : Int) != 5) && decide (l.cu = fr)) = true then madeL fr ls + 1 else madeL fr ls := by
  unfold madeL; rw [List.foldl_append]; rfl
theorem lastL_snoc (fr : ByteArray) (num : Int) (tu : ByteArray) (ls : List Lk) (l : Lk) : lastL fr num tu (ls ++ [l]) = if ((!((l.op : Int) != 5) && decide (l.cu = fr)) && ((l.nu == num) && decide (l.ki = tu))) = true then [l] else lastL fr num tu ls := by
  unfold lastL; rw [List.foldl_append]; rfl
theorem madeL_le (fr : ByteArray) : ∀ (k : Nat) (ls : List Lk), madeL fr (ls.take k) ≤ k
  | 0, ls => by simp [madeL]
  | k + 1, ls => by
    by_cases h : k < ls.length
    · rw [List.take_succ_eq_append_getElem h, madeL_snoc]
      have := madeL_le fr k ls
      split <;> omega
    · rw [List.take_of_length_le (by omega)]
      have := madeL_le fr k ls
      rw [List.take_of_length_le (by omega)] at this
      omega
theorem lksOk_one {x : Lv} (h : LkOk x.l) : LksOk [x] := fun i hi => by
  obtain rfl : i = 0 := by simpa using hi
  exact h
theorem link_one {w : World} {x : Lv} (hx : Byts w x.ba x.l.bo) : Links (w.alloc (.cells (lcells x) 59)) (some ⟨w.heap.size, 0, none⟩) [x] := by
  have e := (Ext.refl w).alloc (.cells (lcells x) 59)
  obtain ⟨-, o1, -⟩ := alloc1 (rfl : w.alloc (.cells (lcells x) 59) = _)
  obtain ⟨c0, c1, c2, c3, c4, c5, c6, c7, c8, c9⟩ := obj_cells10 o1
  refine ⟨.inr ⟨_, 0, rfl, fun i hi => ?_⟩, fun i hi => ?_⟩
  · obtain rfl : i = 0 := by simpa using hi
    have hl : lth [x] 0 = x := rfl
    rw [hl]
    have E := Ext.refl (w.alloc (.cells (lcells x) 59))
    exact ⟨c0 _ E, c1 _ E, c2 _ E, c3 _ E, c4 _ E, c5 _ E, c6 _ E, c7 _ E, c8 _ E, c9 _ E⟩
  · obtain rfl : i = 0 := by simpa using hi
    exact hx.ext e
set_option maxRecDepth 100000 in
set_option maxHeartbeats 4000000 in
theorem rshr_any (N : Bool) (a : Option Addr) (xs : List Lv) (c : Nat) (fr : ByteArray) (num : Int) (tu : ByteArray) (w : World) (h : Links w a xs) (ho : LksOk xs) (hl : xs.length ≤ 1000000) :
    Calls Try.prog 85 #[rv N a xs.length c, .string fr, .int .i64 num, .string tu] w (fun e w' => ∃ la lc ys, e = .returned (.tuple #[.int .i64 (madeL fr (lks xs)), .slice la ys.length lc]) ∧ Ext w w' ∧ Links w' la ys ∧ LksOk ys ∧ lks ys = lastL fr num tu (lks xs)) := by
  obtain ⟨n, hn⟩ : ∃ n, n = xs.length := ⟨_, rfl⟩
  have HX := Lib.hid h; have HN := Lib.hid hn; have HO := Lib.hid ho
  rw [← hn] at hl ⊢
  clear h hn ho
  go_enter Try.func85, Try.ntmps85
  go_upto_region 1 with fail
  generalize hw1 : World.alloc _ _ = w1
  obtain ⟨he, o1, -⟩ := alloc1 hw1
  obtain ⟨b0, b1⟩ := obj_cells2 o1
  clear hw1 o1 b0
  have HB1 := Lib.hid b1; have HE := Lib.hid he
  clear b1
  go_upto_region 2 with fail
  generalize hw2 : World.alloc _ _ = w2
  obtain ⟨he2, o2, -⟩ := alloc1 hw2
  have HE2 := Lib.hid he2
  clear hw2 o2 he2
  go_wp2_with (fail)
  go_loopw [10, 11, 12] (fun d out i wr => ∃ k : Nat, k ≤ n ∧ i = .int .i64 k ∧ d = .int .i64 (madeL fr ((lks xs).take k)) ∧ Hid (Ext w1 wr) ∧ Hid (∃ la lc ys, out = .slice la ys.length lc ∧ Links wr la ys ∧ LksOk ys ∧ lks ys = lastL fr num tu ((lks xs).take k))) (fun _ _ i _ => n - (intOf i).toNat)
  case atStart => exact ⟨0, Nat.zero_le _, rfl, rfl, HE2.out, _, _, [], rfl, ⟨.inl rfl, by simp⟩, fun i hi => by simp at hi, rfl⟩
  case round =>
    obtain ⟨k, hk, rfl, rfl, her, hys⟩ := hrel
    have E0 := Ext.refl wr
    have b1 := fun W (e : Ext wr W) => HB1.out W (her.out.trans e)
    by_cases hlt : k < n
    · have hlx : k < xs.length := by rw [← HN.out]; exact hlt
      have hbx := HX.out.2 k hlx
      have hox := HO.out k hlx
      have hts := take_snoc xs k hlx
      have hds := madeL_snoc fr ((lks xs).take k) (lth xs k).l
      have hls := lastL_snoc fr num tu ((lks xs).take k) (lth xs k).l
      rw [← hts] at hds hls
      obtain ⟨b, o, rfl, hc⟩ := HX.out.at k hlx
      have hcl := hc wr (HE.out.trans her.out)
      obtain ⟨x, hx⟩ : ∃ x, x = lth xs k := ⟨_, rfl⟩
      rw [← hx] at hds hls hcl hbx hox
      have hle := madeL_le fr k (lks xs)
      obtain ⟨m, hm⟩ : ∃ m, m = madeL fr ((lks xs).take k) := ⟨_, rfl⟩
      rw [← hm] at hle hds ⊢
      obtain ⟨c0, c1, c2, c3, c4, c5, c6, c7, c8, c9⟩ := hcl
      have HDS := Lib.hid hds; have HLS := Lib.hid hls; have HBX := Lib.hid hbx; have HOX := Lib.hid hox
      have hi0 : (0 : Int) ≤ (k : Int) := by omega
      have hi1 : (k : Int) < (n : Int) := by omega
      clear hc hts hds hls hx hbx hox hm
      go_upto_region 6 with fail
      clear c0 c1 c2 c3 c4 c5 c6 c7 c8 c9 b1 E0
      generalize hwa : World.alloc _ _ = wa
      obtain ⟨hea, oa, hsa⟩ := alloc1 hwa
      obtain ⟨d0, d1, d2, d3, d4, d5, d6, d7, d8, d9⟩ := obj_cells10 oa
      have Ea := Ext.refl wa
      have HEA := Lib.hid hea
      have hone := link_one (HBX.out.ext ((HE.out.trans her.out).trans hea))
      have hxa := (Ext.refl wa).alloc (.cells (lcells x) 59)
      have HONE := Lib.hid hone; have HXA := Lib.hid hxa
      clear hwa oa hsa hea hone hxa
      cases T1 : ((x.l.op : Int) != 5) <;> cases T2 : decide (x.l.cu = fr) <;> cases T3 : (x.l.nu == num) <;> cases T4 : decide (x.l.ki = tu)
      all_goals
        have hv := HDS.out
        have hv2 := HLS.out
        rw [T1, T2] at hv
        rw [T1, T2, T3, T4] at hv2
        simp only [Bool.not_true, Bool.not_false, Bool.or_true, Bool.or_false, Bool.true_or, Bool.and_true, Bool.and_false, Bool.true_and, Bool.false_and, if_true, if_false, reduceCtorEq] at hv hv2
        have HV := Lib.hid hv; have HV2 := Lib.hid hv2
        have s2 := str_beq x.l.cu fr
        have s3 := str_beq x.l.ki tu
        rw [T2] at s2
        rw [T4] at s3
        clear hv hv2
        go_wp2_with (fail)
        first
        | exact ⟨⟨k + 1, by omega, by go_num, by rw [HV.out] <;> go_num, her.out.trans HEA.out, by obtain ⟨la, lc, ys, h1, h2, h3, h4⟩ := hys.out; exact ⟨la, lc, ys, h1, h2.ext HEA.out, h3, by rw [HV2.out]; exact h4⟩⟩, by simp [intOf]; omega⟩
        | exact ⟨⟨k + 1, by omega, by go_num, by rw [HV.out] <;> go_num, (her.out.trans HEA.out).trans HXA.out, _, _, [x], rfl, HONE.out, lksOk_one HOX.out, by rw [HV2.out]; rfl⟩, by simp [intOf]; omega⟩
    · obtain rfl : k = n := by omega
      have hend : Hid ((lks xs).take k = lks xs) := by rw [Hid, List.take_of_length_le (by rw [lks_len, HN.out]; exact Nat.le_refl _)]
      obtain ⟨la, lc, ys, rfl, h2, h3, h4⟩ := hys.out
      have H4 := Lib.hid h4; have H2 := Lib.hid h2; have H3 := Lib.hid h3
      clear h2 h3 h4 hys
      go_wp2_with (fail)
      go_ret2
      exact ⟨la, lc, ys, by rw [hend.out]; rfl, HE.out.trans her.out, H2.out, H3.out, by rw [H4.out, hend.out]⟩
end Go.Proofs.Ytlahejakcgoheaa
