/-
  Walks of the reference: Day, Customer, Pass.
-/
import Derived.Test.YtlahejakcgoheaaRB
set_option linter.unusedVariables false
set_option linter.unusedSimpArgs false
namespace Go.Proofs.Ytlahejakcgoheaa
open Go.RowKit
/-- A vault of the reference. -/
abbrev rv (N : Bool) (a : Option Addr) (n c : Nat) : Value := .agg #[.bool N, .slice a n c]
def dayL (ls : List Lk) : Int := ls.foldl (fun d l => if l.op = 2 then l.da else d) 0
def advN (ls : List Lk) : Nat := ls.foldl (fun d l => if l.op = 2 then d + 1 else d) 0
theorem take_snoc (xs : List Lv) (k : Nat) (hk : k < xs.length) : (lks xs).take (k + 1) = (lks xs).take k ++ [(lth xs k).l] := by
  have hl : k < (lks xs).length := by rw [lks_len]; exact hk
  rw [List.take_succ_eq_append_getElem hl, lth_eq _ _ hk]; simp [lks]
theorem dayL_snoc (ls : List Lk) (l : Lk) : dayL (ls ++ [l]) = if l.op = 2 then l.da else dayL ls := by
  unfold dayL; rw [List.foldl_append]; rfl
theorem advN_snoc (ls : List Lk) (l : Lk) : advN (ls ++ [l]) = if l.op = 2 then advN ls + 1 else advN ls := by
  unfold advN; rw [List.foldl_append]; rfl
theorem advN_le : ∀ (k : Nat) (ls : List Lk), advN (ls.take k) ≤ k
  | 0, ls => by simp [advN]
  | k + 1, ls => by
    by_cases h : k < ls.length
    · rw [List.take_succ_eq_append_getElem h, advN_snoc]
      have := advN_le k ls
      split <;> omega
    · rw [List.take_of_length_le (by omega)]
      have := advN_le k ls
      rw [List.take_of_length_le (by omega)] at this
      omega
set_option maxRecDepth 100000 in
set_option maxHeartbeats 1000000 in
theorem rday_any (N : Bool) (a : Option Addr) (xs : List Lv) (c : Nat) (w : World) (h : Links w a xs) (ho : LksOk xs) (hl : xs.length ≤ 1000000) :
    Calls Try.prog 25 #[rv N a xs.length c] w (Ret (.tuple #[.int .i64 (dayL (lks xs)), .int .i64 (advN (lks xs))]) w) := by
  obtain ⟨n, hn⟩ : ∃ n, n = xs.length := ⟨_, rfl⟩
  have HX := Lib.hid h; have HN := Lib.hid hn
  rw [← hn] at hl ⊢
  clear h ho hn
  go_enter Try.func25, Try.ntmps25
  go_upto_region 1 with fail
  generalize hw1 : World.alloc _ _ = w1
  obtain ⟨he, o1, -⟩ := alloc1 hw1
  obtain ⟨b0, b1⟩ := obj_cells2 o1
  clear hw1 o1 b0
  have HB1 := Lib.hid b1; have HE := Lib.hid he
  clear b1
  go_wp2_with (fail)
  go_loopw [4, 5, 6] (fun d m i wr => ∃ k : Nat, k ≤ n ∧ i = .int .i64 k ∧ d = .int .i64 (dayL ((lks xs).take k)) ∧ m = .int .i64 (advN ((lks xs).take k)) ∧ Hid (Ext w1 wr)) (fun _ _ i _ => n - (intOf i).toNat)
  case atStart => exact ⟨0, Nat.zero_le _, rfl, rfl, rfl, Ext.refl _⟩
  case round =>
    obtain ⟨k, hk, rfl, rfl, rfl, her⟩ := hrel
    have E0 := Ext.refl wr
    have b1 := fun W (e : Ext wr W) => HB1.out W (her.out.trans e)
    by_cases hlt : k < n
    · have hlx : k < xs.length := by rw [← HN.out]; exact hlt
      obtain ⟨b, o, rfl, hc⟩ := HX.out.at k hlx
      have hts := take_snoc xs k hlx
      have hds := dayL_snoc ((lks xs).take k) (lth xs k).l
      have has := advN_snoc ((lks xs).take k) (lth xs k).l
      rw [← hts] at hds has
      have hcl := fun W (e : Ext wr W) => hc W ((HE.out.trans her.out).trans e)
      have c0 := fun W (e : Ext wr W) => (hcl W e).1
      have c5 := fun W (e : Ext wr W) => (hcl W e).2.2.2.2.2.1
      obtain ⟨x, hx⟩ : ∃ x, x = lth xs k := ⟨_, rfl⟩
      rw [← hx] at hds has c0 c5
      have hle := advN_le k (lks xs)
      obtain ⟨m, hm⟩ : ∃ m, m = advN ((lks xs).take k) := ⟨_, rfl⟩
      rw [← hm] at hle has
      have HDS := Lib.hid hds; have HAS := Lib.hid has; have HM := Lib.hid hm
      rw [← hm]
      have hi0 : (0 : Int) ≤ (k : Int) := by omega
      have hi1 : (k : Int) < (n : Int) := by omega
      clear hc hcl hts hds has hx hm
      cases T : ((x.l.op : Int) == 2)
      · have ht : Hid (x.l.op ≠ 2) := by rw [beq_eq_false_iff_ne] at T; intro e; exact T (by omega)
        go_wp2_with (fail)
        go_roundw
        case rel => exact ⟨k + 1, by omega, by go_num, by rw [HDS.out, if_neg ht.out], by rw [HAS.out, if_neg ht.out], her⟩
        case measure => simp [intOf]; omega
      · have ht : Hid (x.l.op = 2) := by rw [beq_iff_eq] at T; rw [Hid]; omega
        go_wp2_with (fail)
        go_roundw
        case rel => exact ⟨k + 1, by omega, by go_num, by rw [HDS.out, if_pos ht.out], by rw [HAS.out, if_pos ht.out]; go_num, her⟩
        case measure => simp [intOf]; omega
    · obtain rfl : k = n := by omega
      have hend : Hid ((lks xs).take k = lks xs) := by rw [Hid, List.take_of_length_le (by rw [lks_len, HN.out]; exact Nat.le_refl _)]
      go_wp2_with (fail)
      go_ret2
      exact ⟨by rw [hend.out]; rfl, HE.out.trans her.out⟩
def cusF (nm : ByteArray) (ls : List Lk) : Nat × Int := ls.foldl (fun p l => (p.1 + 1, if l.op = 1 ∧ l.cu = nm then (p.1 : Int) else p.2)) (0, -1)
def cusAt (nm : ByteArray) (ls : List Lk) : Int := (cusF nm ls).2
def cusN (ls : List Lk) : Nat := ls.foldl (fun d l => if l.op = 1 then d + 1 else d) 0
theorem cusF_snoc (nm : ByteArray) (ls : List Lk) (l : Lk) : cusF nm (ls ++ [l]) = ((cusF nm ls).1 + 1, if l.op = 1 ∧ l.cu = nm then ((cusF nm ls).1 : Int) else (cusF nm ls).2) := by
  unfold cusF; rw [List.foldl_append]; rfl
theorem cusF_take (nm : ByteArray) : ∀ (k : Nat) (ls : List Lk), k ≤ ls.length → (cusF nm (ls.take k)).1 = k
  | 0, _, _ => by simp [cusF]
  | k + 1, ls, h => by rw [List.take_succ_eq_append_getElem (by omega), cusF_snoc, cusF_take nm k ls (by omega)]
theorem cusN_snoc (ls : List Lk) (l : Lk) : cusN (ls ++ [l]) = if l.op = 1 then cusN ls + 1 else cusN ls := by
  unfold cusN; rw [List.foldl_append]; rfl
theorem cusN_le : ∀ (k : Nat) (ls : List Lk), cusN (ls.take k) ≤ k
  | 0, ls => by simp [cusN]
  | k + 1, ls => by
    by_cases h : k < ls.length
    · rw [List.take_succ_eq_append_getElem h, cusN_snoc]
      have := cusN_le k ls
      split <;> omega
    · rw [List.take_of_length_le (by omega)]
      have := cusN_le k ls
      rw [List.take_of_length_le (by omega)] at this
      omega
set_option maxRecDepth 100000 in
set_option maxHeartbeats 1000000 in
theorem rcus_any (N : Bool) (a : Option Addr) (xs : List Lv) (c : Nat) (nm : ByteArray) (w : World) (h : Links w a xs) (hl : xs.length ≤ 1000000) :
    Calls Try.prog 77 #[rv N a xs.length c, .string nm] w (Ret (.tuple #[.int .i64 (cusAt nm (lks xs)), .int .i64 (cusN (lks xs))]) w) := by
  obtain ⟨n, hn⟩ : ∃ n, n = xs.length := ⟨_, rfl⟩
  have HX := Lib.hid h; have HN := Lib.hid hn
  rw [← hn] at hl ⊢
  clear h hn
  go_enter Try.func77, Try.ntmps77
  go_upto_region 1 with fail
  generalize hw1 : World.alloc _ _ = w1
  obtain ⟨he, o1, -⟩ := alloc1 hw1
  obtain ⟨b0, b1⟩ := obj_cells2 o1
  clear hw1 o1 b0
  have HB1 := Lib.hid b1; have HE := Lib.hid he
  clear b1
  go_wp2_with (fail)
  go_loopw [6, 7, 8] (fun d m i wr => ∃ k : Nat, k ≤ n ∧ i = .int .i64 k ∧ d = .int .i64 (cusAt nm ((lks xs).take k)) ∧ m = .int .i64 (cusN ((lks xs).take k)) ∧ Hid (Ext w1 wr)) (fun _ _ i _ => n - (intOf i).toNat)
  case atStart => exact ⟨0, Nat.zero_le _, rfl, rfl, rfl, Ext.refl _⟩
  case round =>
    obtain ⟨k, hk, rfl, rfl, rfl, her⟩ := hrel
    have E0 := Ext.refl wr
    have b1 := fun W (e : Ext wr W) => HB1.out W (her.out.trans e)
    by_cases hlt : k < n
    · have hlx : k < xs.length := by rw [← HN.out]; exact hlt
      obtain ⟨b, o, rfl, hc⟩ := HX.out.at k hlx
      have hts := take_snoc xs k hlx
      have hds : cusAt nm ((lks xs).take (k + 1)) = if (lth xs k).l.op = 1 ∧ (lth xs k).l.cu = nm then (k : Int) else cusAt nm ((lks xs).take k) := by
        unfold cusAt; rw [hts, cusF_snoc, cusF_take nm k _ (by rw [lks_len]; omega)]
      have has := cusN_snoc ((lks xs).take k) (lth xs k).l
      rw [← hts] at has
      have hcl := fun W (e : Ext wr W) => hc W ((HE.out.trans her.out).trans e)
      have c0 := fun W (e : Ext wr W) => (hcl W e).1
      have c1 := fun W (e : Ext wr W) => (hcl W e).2.1
      obtain ⟨x, hx⟩ : ∃ x, x = lth xs k := ⟨_, rfl⟩
      rw [← hx] at hds has c0 c1
      have hle := cusN_le k (lks xs)
      obtain ⟨m, hm⟩ : ∃ m, m = cusN ((lks xs).take k) := ⟨_, rfl⟩
      rw [← hm] at hle has
      have HDS := Lib.hid hds; have HAS := Lib.hid has; have HM := Lib.hid hm
      rw [← hm]
      have hi0 : (0 : Int) ≤ (k : Int) := by omega
      have hi1 : (k : Int) < (n : Int) := by omega
      clear hc hcl hts hds has hx hm
      cases T : ((x.l.op : Int) == 1)
      · have ht : Hid (x.l.op ≠ 1) := by rw [beq_eq_false_iff_ne] at T; intro e; exact T (by omega)
        go_wp2_with (fail)
        go_roundw
        case rel => exact ⟨k + 1, by omega, by go_num, by rw [HDS.out, if_neg fun q => ht.out q.1], by rw [HAS.out, if_neg ht.out], her⟩
        case measure => simp [intOf]; omega
      · have ht : Hid (x.l.op = 1) := by rw [beq_iff_eq] at T; rw [Hid]; omega
        cases T2 : decide (x.l.cu = nm)
        · have ht2 : Hid (x.l.cu ≠ nm) := by rw [Hid]; exact of_decide_eq_false T2
          have s2 := str_beq x.l.cu nm
          rw [T2] at s2
          go_wp2_with (fail)
          go_roundw
          case rel => exact ⟨k + 1, by omega, by go_num, by rw [HDS.out, if_neg fun q => ht2.out q.2], by rw [HAS.out, if_pos ht.out]; go_num, her⟩
          case measure => simp [intOf]; omega
        · have ht2 : Hid (x.l.cu = nm) := by rw [Hid]; exact of_decide_eq_true T2
          have s2 := str_beq x.l.cu nm
          rw [T2] at s2
          go_wp2_with (fail)
          go_roundw
          case rel => exact ⟨k + 1, by omega, by go_num, by rw [HDS.out, if_pos ⟨ht.out, ht2.out⟩], by rw [HAS.out, if_pos ht.out]; go_num, her⟩
          case measure => simp [intOf]; omega
    · obtain rfl : k = n := by omega
      have hend : Hid ((lks xs).take k = lks xs) := by rw [Hid, List.take_of_length_le (by rw [lks_len, HN.out]; exact Nat.le_refl _)]
      go_wp2_with (fail)
      go_ret2
      exact ⟨by rw [hend.out]; rfl, HE.out.trans her.out⟩
theorem sidx (s : ByteArray) (k : Nat) (h : k < s.size) : s[k] = s.data.toList.getD k 0 := by
  have h2 : k < s.data.toList.length := by simpa using h
  rw [List.getD_eq_getElem?_getD, List.getElem?_eq_getElem h2]
  simp only [Option.getD_some, Array.getElem_toList]
  rfl
theorem no_zero {s : ByteArray} (h : ∀ j, j < s.size → s.data.toList.getD j 0 ≠ 0) : s.data.toList.contains 0 = false := by
  rw [Bool.eq_false_iff]
  intro hc
  have hm : (0 : UInt8) ∈ s.data.toList := by simpa using hc
  obtain ⟨j, hj, e⟩ := List.getElem_of_mem hm
  have hj2 : j < s.size := by rw [← len_data]; exact hj
  refine h j hj2 ?_
  rw [List.getD_eq_getElem?_getD, List.getElem?_eq_getElem hj, e]; rfl
theorem some_zero {s : ByteArray} (k : Nat) (hk : k < s.size) (h : s.data.toList.getD k 0 = 0) : s.data.toList.contains 0 = true := by
  have h2 : k < s.data.toList.length := by rw [len_data]; exact hk
  have hm : (0 : UInt8) ∈ s.data.toList := by
    rw [List.getD_eq_getElem?_getD, List.getElem?_eq_getElem h2] at h
    exact h ▸ List.getElem_mem h2
  simpa using hm
set_option maxRecDepth 100000 in
set_option maxHeartbeats 1000000 in
theorem rpass_any (s : ByteArray) (w : World) (hs : s.size ≤ maxLen) : Calls Try.prog 76 #[.string s] w (Ret (.bool (passB s)) w) := by
  have hs' := hs
  unfold maxLen at hs'
  go_enter Try.func76, Try.ntmps76
  go_wp2_with (fail)
  go_loopw [3] (fun i wr => ∃ k : Nat, k ≤ s.size ∧ i = .int .i64 k ∧ Hid (Ext w wr) ∧ Hid (∀ j, j < k → s.data.toList.getD j 0 ≠ 0)) (fun i _ => s.size - (intOf i).toNat)
  case atStart => exact ⟨0, Nat.zero_le _, rfl, Ext.refl _, fun j h => by omega⟩
  case round =>
    obtain ⟨k, hk, rfl, her, hz⟩ := hrel
    by_cases hlt : k < s.size
    · have hi0 : (0 : Int) ≤ (k : Int) := by omega
      have hi1 : (k : Int) < (s.size : Int) := by omega
      have hsi := Lib.hid (sidx s k hlt)
      cases T : ((s[k].toNat : Int) == 0)
      · have hnz : Hid (s.data.toList.getD k 0 ≠ 0) := by
          rw [Hid, ← hsi.out]; intro e
          rw [beq_eq_false_iff_ne] at T; apply T; rw [e]; rfl
        go_wp2_with (fail)
        go_roundw
        case rel => exact ⟨k + 1, by omega, by go_num, her, fun j hj => by
          by_cases q : j < k
          · exact hz.out j q
          · obtain rfl : j = k := by omega
            exact hnz.out⟩
        case measure => simp [intOf]; omega
      · have hp : Hid (passB s = false) := by
          rw [Hid]; unfold passB
          rw [some_zero k hlt (by rw [← hsi.out]; rw [beq_iff_eq] at T; exact UInt8.toNat_inj.1 (by have : (0 : UInt8).toNat = 0 := rfl; rw [this]; omega))]
          simp
        go_wp2_with (fail)
        go_ret
        exact ⟨by rw [hp.out]; rfl, her.out⟩
    · obtain rfl : k = s.size := by omega
      have hc := Lib.hid (no_zero hz.out)
      have hp : Hid (passB s = (decide (1 ≤ (s.size : Int)) && decide ((s.size : Int) ≤ 40))) := by
        rw [Hid]; unfold passB
        rw [hc.out, Bool.eq_iff_iff]
        simp only [Bool.and_eq_true, bne_iff_ne, ne_eq, decide_eq_true_eq, Bool.not_false, and_true]; omega
      cases T1 : decide (1 ≤ (s.size : Int))
      · have h1 : Hid (passB s = false) := by rw [Hid, hp.out, T1]; rfl
        go_wp2_with (fail)
        go_ret
        exact ⟨by rw [h1.out]; rfl, her.out⟩
      · have h1 : Hid (passB s = decide ((s.size : Int) ≤ 40)) := by rw [Hid, hp.out, T1]; rfl
        go_wp2_with (fail)
        go_ret
        exact ⟨by rw [h1.out]; rfl, her.out⟩
theorem okc (k : Nat) (c : Nat) : okChar k c = ((decide (97 ≤ (c : Int)) && decide ((c : Int) ≤ 122)) || !(((k : Int) == 0) || (((c : Int) != 95) && (decide ((c : Int) < 48) || decide (57 < (c : Int)))))) := by
  unfold okChar
  rw [Bool.eq_iff_iff]
  simp only [Bool.or_eq_true, Bool.and_eq_true, Bool.not_eq_true', Bool.or_eq_false_iff, Bool.and_eq_false_iff, bne_iff_ne, beq_iff_eq, beq_eq_false_iff_ne, bne_eq_false_iff_eq, decide_eq_true_eq, decide_eq_false_iff_not, ne_eq]
  omega
set_option maxRecDepth 100000 in
set_option maxHeartbeats 4000000 in
theorem rname_any (s : ByteArray) (w : World) (hs : s.size ≤ maxLen) : Calls Try.prog 75 #[.string s] w (Ret (.bool (nameB s)) w) := by
  have hs' := hs
  unfold maxLen at hs'
  go_enter Try.func75, Try.ntmps75
  go_wp2_with (fail)
  go_loopw [3] (fun i wr => ∃ k : Nat, k ≤ s.size ∧ i = .int .i64 k ∧ Hid (Ext w wr) ∧ Hid (∀ j, j < k → okChar j (s.data.toList.getD j 0).toNat = true)) (fun i _ => s.size - (intOf i).toNat)
  case atStart => exact ⟨0, Nat.zero_le _, rfl, Ext.refl _, fun j h => by omega⟩
  case round =>
    obtain ⟨k, hk, rfl, her, hz⟩ := hrel
    by_cases hlt : k < s.size
    · have hi0 : (0 : Int) ≤ (k : Int) := by omega
      have hi1 : (k : Int) < (s.size : Int) := by omega
      have hsi := Lib.hid (sidx s k hlt)
      have hoc := okc k s[k].toNat
      have hyes : Hid (okChar k s[k].toNat = true → ∀ j, j < k + 1 → okChar j (s.data.toList.getD j 0).toNat = true) := fun h j hj => by
        by_cases q : j < k
        · exact hz.out j q
        · obtain rfl : j = k := by omega
          rw [← hsi.out]; exact h
      have hno : Hid (okChar k s[k].toNat = false → nameB s = false) := fun h => by
        unfold nameB
        rw [nameCh_false _ k (by rw [len_data]; exact hlt) (by rw [← hsi.out]; exact h)]; rfl
      obtain ⟨z, hzz⟩ : ∃ z, z = okChar k s[k].toNat := ⟨_, rfl⟩
      rw [← hzz] at hyes hno hoc
      have HOC := Lib.hid hoc
      clear hoc hzz
      cases A : decide (97 ≤ (s[k].toNat : Int)) <;> cases B : decide ((s[k].toNat : Int) ≤ 122) <;> cases C : ((k : Int) == 0) <;> cases D : ((s[k].toNat : Int) != 95) <;> cases E : decide ((s[k].toNat : Int) < 48) <;> cases F : decide (57 < (s[k].toNat : Int))
      all_goals
        have hc := HOC.out
        rw [A, B, C, D, E, F] at hc
        simp only [Bool.and_true, Bool.and_false, Bool.or_true, Bool.or_false, Bool.not_true, Bool.not_false, Bool.true_and, Bool.false_and, Bool.true_or, Bool.false_or] at hc
        subst hc
        go_wp2_with (fail)
        first
        | exact ⟨⟨k + 1, by omega, by go_num, her, hyes.out (by simp)⟩, by simp [intOf]; omega⟩
        | (go_ret; exact ⟨by rw [hno.out (by simp)]; rfl, her.out⟩)
    · obtain rfl : k = s.size := by omega
      have hc : nameCh s.data.toList = true := nameCh_true _ fun j hj => hz.out j (by rw [← len_data]; exact hj)
      have hp : Hid (nameB s = (decide (1 ≤ (s.size : Int)) && decide ((s.size : Int) ≤ 20))) := by
        rw [Hid]; unfold nameB
        rw [hc, Bool.eq_iff_iff]
        simp only [Bool.and_eq_true, bne_iff_ne, ne_eq, decide_eq_true_eq, true_and]; omega
      clear hc
      cases T1 : decide (1 ≤ (s.size : Int))
      · have h1 : Hid (nameB s = false) := by rw [Hid, hp.out, T1]; rfl
        go_wp2_with (fail)
        go_ret
        exact ⟨by rw [h1.out]; rfl, her.out⟩
      · have h1 : Hid (nameB s = decide ((s.size : Int) ≤ 20)) := by rw [Hid, hp.out, T1]; rfl
        go_wp2_with (fail)
        go_ret
        exact ⟨by rw [h1.out]; rfl, her.out⟩
end Go.Proofs.Ytlahejakcgoheaa
