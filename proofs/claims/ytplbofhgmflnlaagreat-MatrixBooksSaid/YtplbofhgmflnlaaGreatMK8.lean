/-
  Texts merged: MD, M22, M23, M24, M25, M26, ME, M27.
-/
import Derived.Test.YtplbofhgmflnlaaGreatMJ5
import Derived.Lib.SliceRun
import Derived.Laws.MakeOwn
section
/-
  Walks: IndexFunc, ContainsFunc, DeleteFunc at []int.
-/
set_option linter.unusedVariables false
set_option linter.unusedSimpArgs false
namespace Go.Proofs.YtplbofhgmflnlaaGreat
open Go.RowKit
theorem filter_take_succ (q : Int → Bool) (xs : List Int) (j : Nat) (h : j < xs.length) : (xs.take (j + 1)).filter q = if q (nth xs j) then (xs.take j).filter q ++ [nth xs j] else (xs.take j).filter q := by
  rw [List.take_succ_eq_append_getElem h, List.filter_append, nth_eq _ _ h]
  simp only [List.filter_cons, List.filter_nil]
  split <;> simp
theorem filter_len_le (q : Int → Bool) (xs : List Int) (j : Nat) (h : j ≤ xs.length) : ((xs.take j).filter q).length ≤ j := by
  have := List.length_filter_le q (xs.take j)
  rw [List.length_take] at this
  omega
theorem nth_snoc (ys : List Int) (v : Int) (i : Nat) : nth (ys ++ [v]) i = if i = ys.length then v else nth ys i := by
  unfold nth
  by_cases h : i = ys.length
  · simp [h]
  · rw [if_neg h]
    rcases Nat.lt_or_ge i ys.length with h1 | h1
    · simp [List.getElem?_append_left h1]
    · simp [List.getElem?_eq_none (show (ys ++ [v]).length ≤ i by simp; omega), List.getElem?_eq_none h1]
theorem nth_take (xs : List Int) (i q : Nat) (h : q < i) : nth (xs.take i) q = nth xs q := by simp [nth, List.getElem?_take, h]
theorem fl_nth (xs : List Int) : fl xs.length (nth xs) = xs := ext_nth _ _ (fl_len _ _) fun i hi => by rw [fl_len] at hi; rw [nth_fl _ _ _ hi]
theorem ownI_take {w : World} {B g n c : Nat} {F : Nat → Int} (i : Nat) (hi : i ≤ n) (h : OwnI w B (.slice (some ⟨g, 0, none⟩) n c) (fl n F)) : OwnI w B (.slice (some ⟨g, 0, none⟩) i c) (fl i F) := by
  unfold OwnI at *
  rw [fl_len] at *
  obtain ⟨h1, h2⟩ := h
  refine ⟨by rw [rowI_len, fl_len]; omega, ?_⟩
  rcases h2 with ⟨h2, _⟩ | ⟨g', cap, cur, hv, hg, hh, hnc, hcm, hs, ht⟩
  · simp at h2
  · simp only [Value.slice.injEq, Option.some.injEq, Addr.mk.injEq, and_true, true_and] at hv
    obtain ⟨rfl, rfl⟩ := hv
    refine .inr ⟨g, c, cur, rfl, hg, hh, by omega, hcm, hs, ?_⟩
    have e : rowI (fl i F) = (rowI (fl n F)).take i := by
      simp only [rowI, fl, ← List.map_take]
      rw [List.take_range, Nat.min_eq_left hi]
    rw [e, ← ht, List.take_take]
    congr 1
    omega
theorem ownI_clear {B g n c : Nat} : ∀ (m o : Nat) (w : World) (F : Nat → Int), OwnI w B (.slice (some ⟨g, 0, none⟩) n c) (fl n F) → ∃ G, OwnI (w.setCells g o (List.replicate m (.int .i64 0))) B (.slice (some ⟨g, 0, none⟩) n c) (fl n G) ∧ ∀ q, q < o → G q = F q
  | 0, o, w, F, h => ⟨F, h, fun _ _ => rfl⟩
  | m + 1, o, w, F, h => by
    obtain ⟨G, h1, h2⟩ := ownI_clear m (o + 1) (w.setCell ⟨g, o, none⟩ (.int .i64 0)) _ (ownI_set (j := o) h 0)
    exact ⟨G, h1, fun q hq => by rw [h2 q (by omega), if_neg (by omega)]⟩
theorem ext_setCells {w0 : World} {g : Nat} (hg : w0.heap.size ≤ g) : ∀ (vs : List Value) (o : Nat) (w : World), Ext w0 w → Ext w0 (w.setCells g o vs)
  | [], _, _, h => h
  | v :: vs, o, w, h => ext_setCells hg vs (o + 1) _ (h.set (by exact hg) v)
set_option maxHeartbeats 1000000 in
theorem deleteFunc_int (f : Nat) (cap : Array Value) (a : Option Addr) (n c B : Nat) (xs : List Int) (p : Int → Bool) (w0 w : World) (hn : xs.length = n) (hm : n ≤ 1000000) (hx : OwnI w B (.slice a n c) xs) (h0 : Ext w0 w) (hB : w0.heap.size ≤ B)
    (hp : ∀ i, i < n → Asks Tryz.prog f cap w0 (.int .i64 (nth xs i)) (p (nth xs i))) :
    Calls Tryz.prog 103 #[.slice a n c, .func (.func f) #[] cap] w (fun e w' => ∃ m, e = .returned (.slice a m c) ∧ m = (xs.filter fun x => !p x).length ∧ Ext w0 w' ∧ OwnI w' B (.slice a m c) (xs.filter fun x => !p x)) := by
  obtain ⟨hin, -, hnc⟩ := hx.ints
  have hidx := indexFunc_int f cap a n c xs p w hn hm hin fun i hi => ⟨(hp i hi).1, fun W hW => (hp i hi).2 W (h0.trans hW)⟩
  have HI := Lib.hid hidx
  have HP := Lib.hid hp
  clear hp hidx
  cases hf : xs.findIdx? p with
  | none =>
    have hall : xs.filter (fun x => !p x) = xs := by
      rw [List.filter_eq_self]
      intro y hy
      rw [List.findIdx?_eq_none_iff] at hf
      simp [hf y hy]
    have HA := Lib.hid hall
    rw [hf] at HI
    have HX := Lib.hid hx
    have HN := Lib.hid hn
    clear hall hf hx hn hin
    simp only [idxOr] at HI
    go_enter Tryz.func103, Tryz.ntmps103
    go_wp2_with (go_at_call 131; (with_reducible refine HI.out.mono ?_); rintro e w2 ⟨rfl, he2⟩)
    go_ret
    exact ⟨n, rfl, by rw [HA.out, HN.out], h0.trans he2, by rw [HA.out]; exact HX.out.ext he2⟩
  | some i0 =>
    rw [List.findIdx?_eq_some_iff_getElem] at hf
    obtain ⟨hi0, hp0, hfst⟩ := hf
    have hf2 : xs.findIdx? p = some i0 := by rw [List.findIdx?_eq_some_iff_getElem]; exact ⟨hi0, hp0, hfst⟩
    rw [hf2] at HI
    simp only [idxOr] at HI
    have hi0n : i0 < n := by omega
    have hpre : (xs.take (i0 + 1)).filter (fun x => !p x) = xs.take i0 := by
      rw [filter_take_succ _ _ _ hi0, nth_eq _ _ hi0, hp0]
      simp only [Bool.not_true, Bool.false_eq_true, if_false]
      rw [List.filter_eq_self]
      intro y hy
      obtain ⟨j, hj, rfl⟩ := List.getElem_of_mem hy
      simp only [List.length_take] at hj
      simp only [List.getElem_take]
      simpa using hfst j (by omega)
    rcases hx.2 with ⟨hv, hz⟩ | ⟨g, cap', cur, hv, hg, hh, hnc', hcm, hs, ht⟩
    · simp only [Value.slice.injEq] at hv; omega
    · simp only [Value.slice.injEq] at hv
      obtain ⟨rfl, -, rfl⟩ := hv
      have hx0 : OwnI w B (.slice (some ⟨g, 0, none⟩) n c) (fl n (nth xs)) := by
        have := fl_nth xs
        rw [hn] at this
        rw [this]; exact hx
      have hgB : B ≤ g := hg
      have hX0 := Lib.hid hx0
      have HN := Lib.hid hn
      have HPR := Lib.hid hpre
      clear hx0 hx hn hin hf2 hfst hp0 hpre hh hcm hs ht hnc' hg hi0
      have hne : ((i0 : Int) == -1) = false := by rw [beq_eq_false_iff_ne]; omega
      go_enter Tryz.func103, Tryz.ntmps103
      go_wp2_with (go_at_call 131; (with_reducible refine HI.out.mono ?_); rintro e w2 ⟨rfl, he2⟩)
      have h2 := h0.trans he2
      have hX2 := Lib.hid (hX0.out.ext he2)
      clear he2 hne
      go_loopw [5, 6] (fun v5 v6 wr => ∃ (i j : Nat) (F : Nat → Int), i < j ∧ j ≤ n ∧ v5 = .int .i64 i ∧ v6 = .int .i64 j ∧ Ext w0 wr ∧ OwnI wr B (.slice (some ⟨g, 0, none⟩) n c) (fl n F) ∧
        Hid (((xs.take j).filter fun x => !p x).length = i ∧ (∀ q, q < i → F q = nth ((xs.take j).filter fun x => !p x) q) ∧ (∀ q, j ≤ q → q < n → F q = nth xs q))) (fun _ v6 _ => n - (intOf v6).toNat)
      case atStart =>
        refine ⟨i0, i0 + 1, nth xs, by omega, by omega, rfl, by go_num, h2, hX2.out, ?_, fun q hq => ?_, fun q _ _ => rfl⟩
        · rw [HPR.out, List.length_take]; have := HN.out; omega
        · rw [HPR.out, nth_take _ _ _ hq]
      case round =>
        obtain ⟨i, j, F, hij, hj, rfl, rfl, hr, hown, hq⟩ := hrel
        by_cases hlt : j < n
        · have hcell := ownI_cell (fl_len _ _) hown j hlt
          rw [nth_fl _ _ _ hlt, hq.out.2.2 j (Nat.le_refl _) hlt] at hcell
          obtain ⟨hen, hcl⟩ := HP.out j hlt
          have HQ := Lib.hid (hcl wr hr)
          have hen' := hen (#[.int .i64 (nth xs j)] ++ cap) wr
          clear hen hcl
          have HO := Lib.hid hown
          clear hown
          go_wp2_with (fail)
          refine HQ.out.mono ?_
          rintro e w3 ⟨rfl, he3⟩
          clear HQ hen' hcell
          have hr3 := hr.trans he3
          have hown3 := HO.out.ext he3
          have hstep := filter_take_succ (fun x => !p x) xs j (by rw [HN.out]; exact hlt)
          cases hpk : p (nth xs j)
          · rw [hpk] at hstep
            simp only [Bool.not_false, if_true] at hstep
            have hfr := ownI_free (fl_len _ _) hown3 i
            have hc0 := ownI_cell (fl_len _ _) hown3 i (by omega)
            have hown4 := ownI_set (j := i) hown3 (nth xs j)
            have hr4 := hr3.set (p := ⟨g, i, none⟩) (by simp; omega) (.int .i64 (nth xs j))
            have HH : Hid (((xs.take (j + 1)).filter fun x => !p x).length = i + 1 ∧ (∀ q, q < i + 1 → (if q = i then nth xs j else F q) = nth ((xs.take (j + 1)).filter fun x => !p x) q) ∧ (∀ q, j + 1 ≤ q → q < n → (if q = i then nth xs j else F q) = nth xs q)) := by
              obtain ⟨q1, q2, q3⟩ := hq.out
              rw [hstep]
              refine ⟨by simp [q1], fun q hqi => ?_, fun q hq1 hq2 => ?_⟩
              · rw [nth_snoc, q1]
                by_cases h : q = i
                · rw [if_pos h, if_pos h]
                · rw [if_neg h, if_neg h]; exact q2 q (by omega)
              · rw [if_neg (by omega)]; exact q3 q (by omega) hq2
            have HO4 := Lib.hid hown4
            clear hown4 hown3 hq hstep HO hpk
            have hin2 : i < n := by omega
            go_wp2_with (fail)
            go_roundw
            case rel => exact ⟨i + 1, j + 1, _, by omega, by omega, by go_num, by go_num, hr4, HO4.out, HH⟩
            case measure => simp [intOf]; omega
          · rw [hpk] at hstep
            simp only [Bool.not_true, Bool.false_eq_true, if_false] at hstep
            have HH : Hid (((xs.take (j + 1)).filter fun x => !p x).length = i ∧ (∀ q, q < i → F q = nth ((xs.take (j + 1)).filter fun x => !p x) q) ∧ (∀ q, j + 1 ≤ q → q < n → F q = nth xs q)) := by
              obtain ⟨q1, q2, q3⟩ := hq.out
              rw [hstep]
              exact ⟨q1, q2, fun q hq1 hq2 => q3 q (by omega) hq2⟩
            have HO4 := Lib.hid hown3
            clear hown3 hq hstep HO hpk
            go_wp2_with (fail)
            go_roundw
            case rel => exact ⟨i, j + 1, F, by omega, by omega, rfl, by go_num, hr3, HO4.out, HH⟩
            case measure => simp [intOf]; omega
        · obtain rfl : j = n := by omega
          have hic : ¬ c = i := by omega
          have hcl := Lib.run_clear_slice (P := Tryz.prog) wr 31 3 0 (.int .i64 0) Tryz.underlying31 (fun w => by kernel_rfl) rfl rfl g i (j - i) (c - i) (by omega) (fun q hq => by rw [ownI_cell (fl_len _ _) hown (i + q) (by omega)]; rfl) (fun q _ => ownI_free (fl_len _ _) hown (i + q))
          obtain ⟨G, hG1, hG2⟩ := ownI_clear (j - i) i wr F hown
          have hr5 := ext_setCells (w0 := w0) (g := g) (by omega) (List.replicate (j - i) (.int .i64 0)) i wr hr
          have HG := Lib.hid hG1
          have hin2 : i ≤ j := by omega
          clear hown hG1
          go_wp2_with (fail)
          go_ret
          obtain ⟨q1, q2, -⟩ := hq.out
          rw [List.take_of_length_le (by rw [HN.out]; exact Nat.le_refl _)] at q1 q2
          refine ⟨i, rfl, q1.symm, hr5, ?_⟩
          have hO := ownI_take i hin2 HG.out
          have he : fl i G = xs.filter fun x => !p x := ext_nth _ _ (by rw [fl_len, q1]) fun q hq => by
            rw [fl_len] at hq
            rw [nth_fl _ _ _ hq, hG2 q hq, q2 q hq]
          rw [he] at hO
          exact hO
end Go.Proofs.YtplbofhgmflnlaaGreat
end
section
/-
  Books in memory; NewBook (printed by genm22.py).
-/
set_option linter.unusedVariables false
set_option linter.unusedSimpArgs false
namespace Go.Proofs.YtplbofhgmflnlaaGreat
open Go.RowKit
/-- A point of a book. -/
structure Pt where
  blk : Int
  place : Int
  st : Int
  rs : ByteArray
def ptC (x : Pt) : List Value := [.int .i64 x.blk, .int .i64 x.place, .int .u8 x.st, .string x.rs]
theorem ptC_len (x : Pt) : (ptC x).length = 4 := rfl
theorem ptC_one (x : Pt) : ∀ u ∈ ptC x, u.oneCell' = true := by
  intro u hu
  simp only [ptC, List.mem_cons, List.mem_nil_iff, or_false] at hu
  rcases hu with rfl | rfl | rfl | rfl <;> rfl
abbrev ptZ : Pt := ⟨0, 0, 0, ⟨#[]⟩⟩
def qth (xs : List Pt) (i : Nat) : Pt := xs.getD i ptZ
theorem qth_eq (xs : List Pt) (i : Nat) (h : i < xs.length) : qth xs i = xs[i] := by simp [qth, h]
abbrev OwnP (w : World) (B : Nat) (v : Value) (xs : List Pt) : Prop := OwnF 157 4 ptC w B v xs
abbrev rwP (v : Value) (xs : List Pt) : Rw := ⟨157, 4, v, xs.length, rowF ptC xs⟩
abbrev rwB (g : Nat) (v u : Value) : Rw := ⟨155, 2, .slice (some ⟨g, 0, none⟩) 1 1, 1, [v, u]⟩
def optR (b : Bool) (r : Rw) : List Rw := if b then [r] else []
theorem info157 : (Tryz.prog.info? 157).map (fun i => (i.zero, i.size, i.bytes)) = some (some (.agg #[.int .i64 0, .int .i64 0, .int .u8 0, .string ⟨#[]⟩]), 4, 40) := by kernel_rfl
def madeP (W : World) (n : Nat) : World := W.alloc (.cells (madeCells #[.int .i64 0, .int .i64 0, .int .u8 0, .string ⟨#[]⟩] (n * 4)) 157)
theorem run_madeP (n : Nat) (hn : n ≤ 1000000) (W : World) : (Instr.makeSlice 153 (.int .i64 (n : Int)) (.int .i64 (n : Int))).run Tryz.prog W = .ok (.slice (some ⟨W.heap.size, 0, none⟩) n n) (madeP W n) := by
  obtain ⟨i0, hi, hz0, hz1, hz2⟩ := info_parts info157
  have := run_make (P := Tryz.prog) W 153 157 i0 (.agg #[.int .i64 0, .int .i64 0, .int .u8 0, .string ⟨#[]⟩]) Tryz.underlying153 hi hz0 .i64 .i64 n n
  rw [hz1, hz2] at this
  have h := this (by omega) (by omega) (by omega) (by omega)
  rw [Int.toNat_natCast] at h
  exact h
theorem madeP_list (n : Nat) : (madeCells #[.int .i64 0, .int .i64 0, .int .u8 0, .string ⟨#[]⟩] (n * 4)).toList = rowF ptC (List.replicate n ptZ) := by
  apply List.ext_getElem?
  intro t
  by_cases ht : t < n * 4
  · have hq : t / 4 < (List.replicate n ptZ).length := by rw [List.length_replicate]; omega
    have h1 := rowF_at ptC_len (List.replicate n ptZ) (t / 4) (t % 4) hq (by omega)
    rw [show t / 4 * 4 + t % 4 = t by omega] at h1
    rw [h1, List.getElem_replicate]
    unfold madeCells
    rw [Array.getElem?_toList, Array.getElem?_map, Array.getElem?_range, if_pos ht, Option.map_some]
    have h4 : t % 4 < 4 := by omega
    simp only [List.size_toArray, List.length_cons, List.length_nil]
    match h : t % 4, h4 with
    | 0, _ => simp [h, ptC]
    | 1, _ => simp [h, ptC]
    | 2, _ => simp [h, ptC]
    | 3, _ => simp [h, ptC]
  · rw [List.getElem?_eq_none (by rw [Array.length_toList, size_madeCells]; omega), List.getElem?_eq_none (by rw [rowF_len ptC_len, List.length_replicate]; omega)]
theorem madeP_facts {W : World} {B n : Nat} (hn : n ≤ 1000000) (hB : B ≤ W.heap.size) {L : List Rw} (h : RowsAt W B L) : Ext W (madeP W n) ∧ RowsAt (madeP W n) B (rwP (.slice (some ⟨W.heap.size, 0, none⟩) n n) (List.replicate n ptZ) :: L) := by
  have hx : Ext W (madeP W n) := (Ext.refl W).alloc _
  refine ⟨hx, ?_⟩
  have := h.lit (n := n) (sz := 4) hx (heap_new _ _) (Nat.le_refl _) hB hn (by rw [size_madeCells])
  rw [madeP_list] at this
  have e : (List.replicate n ptZ).length = n := List.length_replicate
  unfold rwP
  rw [e]
  exact this
set_option maxRecDepth 100000 in
set_option maxHeartbeats 4000000 in
theorem nb_law {n pb sc : Nat} {sa : Option Addr} {sd : Int} {P0 P1 : Value} {wr : World} {ord : List Int} (p0 : ∀ W, Ext wr W → W.cell? ⟨pb, 0, none⟩ = some P0) (p1 : ∀ W, Ext wr W → W.cell? ⟨pb, 1, none⟩ = some P1) (HMK : Hid (∀ W, (Instr.makeSlice 153 (.int .i64 (n : Int)) (.int .i64 (n : Int))).run Tryz.prog W = .ok (.slice (some ⟨W.heap.size, 0, none⟩) n n) (madeP W n))) (HMF : Hid (∀ W, Ext wr W → ∀ L, RowsAt W wr.heap.size L → Ext W (madeP W n) ∧ RowsAt (madeP W n) wr.heap.size (rwP (.slice (some ⟨W.heap.size, 0, none⟩) n n) (List.replicate n ptZ) :: L))) (HCALL : Hid (∀ W, Ext wr W → Calls Tryz.prog 93 #[.agg #[P0, P1], .slice sa n sc, .int .u64 sd] W (RetI ord W))) {Q : Exit → Act → World → Prop} (aZ : Act) (hsz : aZ.tmps.size = 52) (o1 : aZ.tmps[1]?.getD undef = .slice sa n sc) (o2 : aZ.tmps[2]?.getD undef = .int .u64 sd) (o3 : aZ.tmps[3]?.getD undef = .pointer (some ⟨pb, 0, none⟩))
    (hend : ∀ (vs : Nat → Value) (w9 : World) (ls9 : Nat → Bool), (∀ j : Nat, j < 10 → ls9 j = true) → (Ext wr w9 ∧ (ls9 2 = true → ∃ gp, vs 2 = .slice (some ⟨gp, 0, none⟩) n n) ∧ (ls9 8 = false → RowsAt w9 wr.heap.size (optR (ls9 2) (rwP (vs 2) (List.replicate n ptZ)) ++ optR (ls9 6) (rwI (vs 6) ord))) ∧ (ls9 7 = true → ls9 8 = false → vs 7 = .agg #[vs 2, vs 6]) ∧ (ls9 8 = true → ∃ gb, vs 8 = .pointer (some ⟨gb, 0, none⟩) ∧ RowsAt w9 wr.heap.size [rwB gb (vs 2) (vs 6), rwP (vs 2) (List.replicate n ptZ), rwI (vs 6) ord]) ∧ (ls9 9 = true → vs 9 = vs 8)) → (vs 0 = .slice sa n sc) → (vs 1 = .int .i64 n) → (True) → (vs 3 = .agg #[P0, P1]) → (vs 4 = .slice sa n sc) → (vs 5 = .int .u64 sd) → (True) → (True) → (True) → (True) → Q .normal ((((((((((aZ.put (some 18) (vs 0)).put (some 19) (vs 1)).put (some 20) (vs 2)).put (some 21) (vs 3)).put (some 22) (vs 4)).put (some 23) (vs 5)).put (some 24) (vs 6)).put (some 25) (vs 7)).put (some 26) (vs 8)).put (some 9) (vs 9)) w9) : (regOf Tryz.f52 4).wp Tryz.prog Q aZ wr := by
  conv => arg 2; whnf
  refine wp_region_said3 (fun i v wz => match i with
    | 0 => v = .slice sa n sc
    | 1 => v = .int .i64 n
    | 2 => True
    | 3 => v = .agg #[P0, P1]
    | 4 => v = .slice sa n sc
    | 5 => v = .int .u64 sd
    | 6 => True
    | 7 => True
    | 8 => True
    | _ => True) (fun ls vs wz => Ext wr wz ∧ (ls 2 = true → ∃ gp, vs 2 = .slice (some ⟨gp, 0, none⟩) n n) ∧ (ls 8 = false → RowsAt wz wr.heap.size (optR (ls 2) (rwP (vs 2) (List.replicate n ptZ)) ++ optR (ls 6) (rwI (vs 6) ord))) ∧ (ls 7 = true → ls 8 = false → vs 7 = .agg #[vs 2, vs 6]) ∧ (ls 8 = true → ∃ gb, vs 8 = .pointer (some ⟨gb, 0, none⟩) ∧ RowsAt wz wr.heap.size [rwB gb (vs 2) (vs 6), rwP (vs 2) (List.replicate n ptZ), rwI (vs 6) ord]) ∧ (ls 9 = true → vs 9 = vs 8)) (by kernel_rfl) (by kernel_rfl) (by rw [hsz]; kernel_rfl) ?_ ?_ ?_
  · exact ⟨(Ext.refl _).drew, fun e => (by cases e), fun _ => RowsAt.nil _ _, fun e => (by cases e), fun e => (by cases e), fun e => (by cases e)⟩
  · refine ⟨?_, ?_, ?_, ?_, ?_, ?_, ?_, ?_, ?_, ?_, trivial⟩
    · intro ls vs a w1 hi hJ hold hdep hdon hcl K hK
      have q1 : a.tmps[1]?.getD undef = .slice sa n sc := (hold 1 (by kernel_rfl)).trans o1
      rw [if_pos (by rfl)]
      clear hold hdep hend hdon hcl o1 o2 o3
      have HJ := Lib.hid hJ
      clear hJ
      go_simp
      exact hK _ _ (fun _ _ _ h => h) HJ.out rfl
    · intro ls vs a w1 hi hJ hold hdep hdon hcl K hK
      have q18 : a.tmps[18]?.getD undef = .slice sa n sc := (hdep 0 18 (by kernel_rfl) (by kernel_rfl)).2.1.trans (hdep 0 18 (by kernel_rfl) (by kernel_rfl)).2.2
      rw [if_pos (by rfl)]
      clear hold hdep hend hdon hcl o1 o2 o3
      have HJ := Lib.hid hJ
      clear hJ
      go_simp
      exact hK _ _ (fun _ _ _ h => h) HJ.out rfl
    · intro ls vs a w1 hi hJ hold hdep hdon hcl K hK
      have q19 : a.tmps[19]?.getD undef = .int .i64 n := (hdep 1 19 (by kernel_rfl) (by kernel_rfl)).2.1.trans (hdep 1 19 (by kernel_rfl) (by kernel_rfl)).2.2
      have hn7 : ls 7 = false := by
        cases e : ls 7 with
        | false => rfl
        | true =>
          replace e := hcl 7 2 e (by kernel_rfl)
          rw [show ls 2 = false from hi] at e
          cases e
      have hn8 : ls 8 = false := by
        cases e : ls 8 with
        | false => rfl
        | true =>
          replace e := hcl 8 7 e (by kernel_rfl)
          replace e := hcl 7 2 e (by kernel_rfl)
          rw [show ls 2 = false from hi] at e
          cases e
      have hn9 : ls 9 = false := by
        cases e : ls 9 with
        | false => rfl
        | true =>
          replace e := hcl 9 2 e (by kernel_rfl)
          rw [show ls 2 = false from hi] at e
          cases e
      rw [if_pos (by rfl)]
      clear hold hdep hend hdon hcl o1 o2 o3
      have HJ := Lib.hid hJ
      clear hJ
      obtain ⟨j1, j2, j3, j4, j5, j6⟩ := HJ.out
      have hn2 : ls 2 = false := hi
      have hmk := HMK.out
      obtain ⟨hx, hr⟩ := HMF.out w1 j1 _ (j3 hn8)
      go_simp
      refine hK _ _ (fun _ _ _ h => h) ⟨j1.trans hx, fun _ => ⟨_, rfl⟩, fun _ => ?_, fun e e2 => ?_, fun e => (by simp [hn8] at e), fun e => (by first | (simp [hn9] at e; done) | exact j6 e)⟩ trivial
      · rw [hn2] at hr
        exact hr
      · exfalso
        have e : ls 7 = true := by simpa using e
        rw [hn7] at e; cases e
    · intro ls vs a w1 hi hJ hold hdep hdon hcl K hK
      have q3 : a.tmps[3]?.getD undef = .pointer (some ⟨pb, 0, none⟩) := (hold 3 (by kernel_rfl)).trans o3
      have hn8 : ls 8 = false := by
        cases e : ls 8 with
        | false => rfl
        | true =>
          replace e := hcl 8 7 e (by kernel_rfl)
          replace e := hcl 7 6 e (by kernel_rfl)
          replace e := hcl 6 3 e (by kernel_rfl)
          rw [show ls 3 = false from hi] at e
          cases e
      rw [if_pos (by rfl)]
      clear hold hdep hend hdon hcl o1 o2 o3
      have HJ := Lib.hid hJ
      clear hJ
      have hx := HJ.out.1
      go_simp
      exact hK _ _ (fun _ _ _ h => h) HJ.out rfl
    · intro ls vs a w1 hi hJ hold hdep hdon hcl K hK
      have q1 : a.tmps[1]?.getD undef = .slice sa n sc := (hold 1 (by kernel_rfl)).trans o1
      rw [if_pos (by rfl)]
      clear hold hdep hend hdon hcl o1 o2 o3
      have HJ := Lib.hid hJ
      clear hJ
      go_simp
      exact hK _ _ (fun _ _ _ h => h) HJ.out rfl
    · intro ls vs a w1 hi hJ hold hdep hdon hcl K hK
      have q2 : a.tmps[2]?.getD undef = .int .u64 sd := (hold 2 (by kernel_rfl)).trans o2
      rw [if_pos (by rfl)]
      clear hold hdep hend hdon hcl o1 o2 o3
      have HJ := Lib.hid hJ
      clear hJ
      go_simp
      exact hK _ _ (fun _ _ _ h => h) HJ.out rfl
    · intro ls vs a w1 hi hJ hold hdep hdon hcl K hK
      have q21 : a.tmps[21]?.getD undef = .agg #[P0, P1] := (hdep 3 21 (by kernel_rfl) (by kernel_rfl)).2.1.trans (hdep 3 21 (by kernel_rfl) (by kernel_rfl)).2.2
      have q22 : a.tmps[22]?.getD undef = .slice sa n sc := (hdep 4 22 (by kernel_rfl) (by kernel_rfl)).2.1.trans (hdep 4 22 (by kernel_rfl) (by kernel_rfl)).2.2
      have q23 : a.tmps[23]?.getD undef = .int .u64 sd := (hdep 5 23 (by kernel_rfl) (by kernel_rfl)).2.1.trans (hdep 5 23 (by kernel_rfl) (by kernel_rfl)).2.2
      have hn7 : ls 7 = false := by
        cases e : ls 7 with
        | false => rfl
        | true =>
          replace e := hcl 7 6 e (by kernel_rfl)
          rw [show ls 6 = false from hi] at e
          cases e
      have hn8 : ls 8 = false := by
        cases e : ls 8 with
        | false => rfl
        | true =>
          replace e := hcl 8 7 e (by kernel_rfl)
          replace e := hcl 7 6 e (by kernel_rfl)
          rw [show ls 6 = false from hi] at e
          cases e
      have hn9 : ls 9 = false := by
        cases e : ls 9 with
        | false => rfl
        | true =>
          replace e := hcl 9 6 e (by kernel_rfl)
          rw [show ls 6 = false from hi] at e
          cases e
      rw [if_pos (by rfl)]
      clear hold hdep hend hdon hcl o1 o2 o3
      have HJ := Lib.hid hJ
      clear hJ
      obtain ⟨j1, j2, j3, j4, j5, j6⟩ := HJ.out
      have hn6 : ls 6 = false := hi
      go_simp
      go_at_call 93
      (with_reducible refine (HCALL.out _ j1).mono ?_); rintro e w20 ⟨oa, oc, rfl, he2, ho2⟩
      have hr := j3 hn8
      rw [hn6] at hr
      have hp := hr.push (w' := w20) (r := rwI (.slice oa ord.length oc) ord) (own_down ho2 j1.size) (fun k hk => Below.block he2 k hk) (fun k hk => (ho2.lt k hk).1)
      refine hK _ _ (fun _ _ _ h => h) ⟨j1.trans he2, fun e => by simpa using j2 (by simpa using e), fun _ => ?_, fun e e2 => ?_, fun e => (by simp [hn8] at e), fun e => (by first | (simp [hn9] at e; done) | exact j6 e)⟩ trivial
      · refine hp.perm ?_
        show (_ :: (optR (ls 2) _ ++ [])).Perm (optR (ls 2) _ ++ [_])
        rw [List.append_nil]
        exact (List.perm_append_comm (l₁ := [_]))
      · exfalso
        have e : ls 7 = true := by simpa using e
        rw [hn7] at e; cases e
    · intro ls vs a w1 hi hJ hold hdep hdon hcl K hK
      obtain ⟨hl2, q20, p20⟩ := hdep 2 20 (by kernel_rfl) (by kernel_rfl)
      obtain ⟨hl6, q24, p24⟩ := hdep 6 24 (by kernel_rfl) (by kernel_rfl)
      have hn8 : ls 8 = false := by
        cases e : ls 8 with
        | false => rfl
        | true =>
          replace e := hcl 8 7 e (by kernel_rfl)
          rw [show ls 7 = false from hi] at e
          cases e
      have hn9 : ls 9 = false := by
        cases e : ls 9 with
        | false => rfl
        | true =>
          replace e := hcl 9 7 e (by kernel_rfl)
          rw [show ls 7 = false from hi] at e
          cases e
      have hl2 := hdon 2 (by kernel_rfl)
      have hl6 := hdon 6 (by kernel_rfl)
      rw [if_pos (by rfl)]
      clear hold hdep hend hdon hcl o1 o2 o3
      have HJ := Lib.hid hJ
      clear hJ
      obtain ⟨j1, j2, j3, j4, j5, j6⟩ := HJ.out
      have hn7 : ls 7 = false := hi
      obtain ⟨gp, hv2⟩ := j2 hl2
      have hr := j3 hn8
      rw [hl2, hl6] at hr
      obtain ⟨oa, oc, hv6⟩ := slice_row (hr.own (rwI (vs 6) ord) (by simp [optR]))
      have hv6' : vs 6 = .slice oa ord.length oc := hv6
      rw [hv2] at q20
      rw [hv6'] at q24
      go_simp
      refine hK _ _ (fun _ _ _ h => h) ⟨j1, fun e => ⟨gp, by simpa using hv2⟩, fun _ => ?_, fun _ _ => ?_, fun e => (by simp [hn8] at e), fun e => (by first | (simp [hn9] at e; done) | exact j6 e)⟩ trivial
      · simpa [hl2, hl6] using hr
      · simp [hv2, hv6']
    · intro ls vs a w1 hi hJ hold hdep hdon hcl K hK
      obtain ⟨hl7, q25, p25⟩ := hdep 7 25 (by kernel_rfl) (by kernel_rfl)
      have hn9 : ls 9 = false := by
        cases e : ls 9 with
        | false => rfl
        | true =>
          replace e := hcl 9 8 e (by kernel_rfl)
          rw [show ls 8 = false from hi] at e
          cases e
      have hl2 := hdon 7 (by kernel_rfl)
      replace hl2 := hcl 7 2 hl2 (by kernel_rfl)
      have hl6 := hdon 7 (by kernel_rfl)
      replace hl6 := hcl 7 6 hl6 (by kernel_rfl)
      have hl7 := hdon 7 (by kernel_rfl)
      rw [if_pos (by rfl)]
      clear hold hdep hend hdon hcl o1 o2 o3
      have HJ := Lib.hid hJ
      clear hJ
      obtain ⟨j1, j2, j3, j4, j5, j6⟩ := HJ.out
      have hn8 : ls 8 = false := hi
      obtain ⟨gp, hv2⟩ := j2 hl2
      have hr := j3 hn8
      rw [hl2, hl6] at hr
      obtain ⟨oa, oc, hv6⟩ := slice_row (hr.own (rwI (vs 6) ord) (by simp [optR]))
      have hv6' : vs 6 = .slice oa ord.length oc := hv6
      rw [j4 hl7 hn8, hv2, hv6'] at q25
      go_simp
      have hx := (Ext.refl w1).alloc (.cells #[.slice (some ⟨gp, 0, none⟩) n n, .slice oa ord.length oc] 155)
      have hp := hr.lit (n := 1) (sz := 2) hx (heap_new _ _) (Nat.le_refl _) j1.size (by omega) rfl
      refine hK _ _ (fun _ _ _ h => h) ⟨j1.trans hx, fun e => ⟨gp, by simpa using hv2⟩, fun e => (by simp at e), fun _ e => (by simp at e), fun _ => ⟨_, rfl, ?_⟩, fun e => (by simp [hn9] at e)⟩ trivial
      have e1 : rwB w1.heap.size (vs 2) (vs 6) = ⟨155, 2, .slice (some ⟨w1.heap.size, 0, none⟩) 1 1, 1, [.slice (some ⟨gp, 0, none⟩) n n, .slice oa ord.length oc]⟩ := by rw [hv2, hv6']
      simp only [Nat.reduceEqDiff, if_false]
      rw [e1]
      exact hp
    · intro ls vs a w1 hi hJ hold hdep hdon hcl K hK
      obtain ⟨hl8, q26, p26⟩ := hdep 8 26 (by kernel_rfl) (by kernel_rfl)
      have hl8 := hdon 8 (by kernel_rfl)
      rw [if_pos (by rfl)]
      clear hold hdep hend hdon hcl o1 o2 o3
      have HJ := Lib.hid hJ
      clear hJ
      obtain ⟨j1, j2, j3, j4, j5, j6⟩ := HJ.out
      go_simp
      exact hK _ _ (fun _ _ _ h => h) ⟨j1, j2, j3, j4, j5, fun _ => rfl⟩ trivial
  · intro vs w9 ls9 hl9 hJ9 hφ
    have e0 := hφ 0 (by kernel_rfl)
    have e1 := hφ 1 (by kernel_rfl)
    have e2 := hφ 2 (by kernel_rfl)
    have e3 := hφ 3 (by kernel_rfl)
    have e4 := hφ 4 (by kernel_rfl)
    have e5 := hφ 5 (by kernel_rfl)
    have e6 := hφ 6 (by kernel_rfl)
    have e7 := hφ 7 (by kernel_rfl)
    have e8 := hφ 8 (by kernel_rfl)
    have e9 := hφ 9 (by kernel_rfl)
    have hq := hend vs w9 ls9 hl9 hJ9 e0 e1 e2 e3 e4 e5 e6 e7 e8 e9
    simp only [Act.put] at hq
    simp only [putAll, Act.put]
    exact hq
end Go.Proofs.YtplbofhgmflnlaaGreat
end
section
/-
  NewBook: what the order is, and the walk (printed by genm23.py).
-/
set_option linter.unusedVariables false
set_option linter.unusedSimpArgs false
namespace Go.Proofs.YtplbofhgmflnlaaGreat
open Go.RowKit
section
variable {K : Nat → List Int} {n : Nat} {sd : Int}
theorem ordK_mem (hn : n ≤ 1000000) {key : List Int} : key ∈ ordK K n sd ↔ key ∈ ddK K n := by
  unfold ordK
  rw [List.mem_flatMap]
  constructor
  · rintro ⟨b, -, h⟩
    exact (shB_mem hn h).1
  · intro h
    refine ⟨nth key 0, ?_, (shB_perm hn _).mem_iff.2 ?_⟩
    · rw [sNs_mem]
      obtain ⟨j, hj, e⟩ := (mem_ddK K key n).1 h
      exact (mem_ddK _ _ n).2 ⟨j, hj, by simp [KB, e]⟩
    · unfold kbI
      rw [List.mem_filter]
      exact ⟨h, by simp⟩
theorem shM_mem (hn : n ≤ 1000000) {key : List Int} {x : Int} : x ∈ shM K n sd key ↔ ∃ j, j < n ∧ K j = key ∧ x = (j : Int) := by
  rw [(shM_perm hn key).mem_iff]
  unfold memI
  rw [List.mem_map]
  constructor
  · rintro ⟨j, hj, rfl⟩
    rw [List.mem_filter] at hj
    exact ⟨j, List.mem_range.1 hj.1, by simpa using hj.2, rfl⟩
  · rintro ⟨j, hj, e, rfl⟩
    exact ⟨j, List.mem_filter.2 ⟨List.mem_range.2 hj, by simpa using e⟩, rfl⟩
theorem memI_nodup (key : List Int) : (memI K n key).Nodup := by
  unfold memI
  rw [List.Nodup, List.pairwise_map]
  refine (List.nodup_range.sublist List.filter_sublist).imp ?_
  intro a b hab e
  exact hab (Int.ofNat.inj e)
theorem ordL_nodup (hn : n ≤ 1000000) : (ordL K n sd).Nodup := by
  unfold ordL
  rw [List.flatMap_def, List.Nodup, List.pairwise_flatten]
  refine ⟨?_, ?_⟩
  · intro l hl
    obtain ⟨key, hb, rfl⟩ := List.mem_map.1 hl
    exact (shM_perm hn key).nodup_iff.2 (memI_nodup key)
  · rw [List.pairwise_map]
    refine (ordK_nodup hn).imp ?_
    intro a b hab x hx y hy e
    subst e
    obtain ⟨i, -, e1, e2⟩ := (shM_mem hn).1 hx
    obtain ⟨j, -, e3, e4⟩ := (shM_mem hn).1 hy
    have : i = j := by omega
    subst this
    exact hab (e1.symm.trans e3)
theorem ordL_mem (hn : n ≤ 1000000) {x : Int} : x ∈ ordL K n sd ↔ ∃ j : Nat, j < n ∧ x = (j : Int) := by
  unfold ordL
  rw [List.mem_flatMap]
  constructor
  · rintro ⟨key, -, h⟩
    obtain ⟨j, hj, -, e⟩ := (shM_mem hn).1 h
    exact ⟨j, hj, e⟩
  · rintro ⟨j, hj, e⟩
    exact ⟨K j, (ordK_mem hn).2 ((mem_ddK K _ n).2 ⟨j, hj, rfl⟩), (shM_mem hn).2 ⟨j, hj, rfl, e⟩⟩
theorem rngI_mem {x : Int} : x ∈ rngI n ↔ ∃ j : Nat, j < n ∧ x = (j : Int) := by
  unfold rngI fl
  rw [List.mem_map]
  constructor
  · rintro ⟨j, hj, rfl⟩; exact ⟨j, List.mem_range.1 hj, rfl⟩
  · rintro ⟨j, hj, rfl⟩; exact ⟨j, List.mem_range.2 hj, rfl⟩
theorem rngI_nodup : (rngI n).Nodup := by
  unfold rngI fl
  rw [List.Nodup, List.pairwise_map]
  refine List.nodup_range.imp ?_
  intro a b hab e
  exact hab (Int.ofNat.inj e)
/-- THE ORDER HAS EACH NUMBER ONCE. -/
theorem ordL_perm (hn : n ≤ 1000000) : (ordL K n sd).Perm (rngI n) := by
  rw [List.perm_ext_iff_of_nodup (ordL_nodup hn) rngI_nodup]
  intro x
  rw [ordL_mem hn, rngI_mem]
theorem ordL_len (hn : n ≤ 1000000) : (ordL K n sd).length = n := by rw [(ordL_perm hn).length_eq, rngI_len]
theorem ordL_at (hn : n ≤ 1000000) {k : Nat} (hk : k < n) : ∃ i : Nat, i < n ∧ nth (ordL K n sd) k = (i : Int) := by
  have : nth (ordL K n sd) k ∈ ordL K n sd := by
    rw [nth_eq _ _ (by rw [ordL_len hn]; exact hk)]; exact List.getElem_mem _
  exact (ordL_mem hn).1 this
end
/-- A new book's points: those that the first k places of the order tell of are made. -/
def ptsTo (ss : List Se) (ord : List Int) : Nat → List Pt
  | 0 => List.replicate ss.length ptZ
  | k + 1 => (ptsTo ss ord k).set (nth ord k).toNat ⟨(eth ss (nth ord k).toNat).blk, (k : Int), 0, ⟨#[]⟩⟩
theorem ptsTo_len (ss : List Se) (ord : List Int) : ∀ k, (ptsTo ss ord k).length = ss.length
  | 0 => List.length_replicate
  | k + 1 => by rw [ptsTo, List.length_set]; exact ptsTo_len ss ord k
set_option maxRecDepth 100000 in
set_option maxHeartbeats 4000000 in
theorem np_law {n gb gp cp sb so sc x k : Nat} {bl : Int} {wr : World} {R : World → Prop} (hi0 : (0 : Int) ≤ (x : Int)) (hi1 : (x : Int) < (n : Int)) (hb0 : ∀ W, Ext wr W → W.cell? ⟨gb, 0, none⟩ = some (.slice (some ⟨gp, 0, none⟩) n cp)) (hd1 : ∀ W, Ext wr W → W.cell? ⟨sb, so + x * 2 + 1, none⟩ = some (.int .i64 bl)) (HTH : Hid (∀ W, Ext wr W → W.there gp (x * 4) 4)) (HS : Hid (∀ W, Ext wr W → R (W.setCells gp (x * 4) [.int .i64 bl, .int .i64 (k : Int), .int .u8 0, .string ⟨#[]⟩]))) {Q : Exit → Act → World → Prop} (aZ : Act) (hsz : aZ.tmps.size = 52) (o1 : aZ.tmps[1]?.getD undef = .slice (some ⟨sb, so, none⟩) n sc) (o9 : aZ.tmps[9]?.getD undef = .pointer (some ⟨gb, 0, none⟩)) (o10 : aZ.tmps[10]?.getD undef = .int .i64 (k : Int)) (o11 : aZ.tmps[11]?.getD undef = .int .i64 (x : Int))
    (hend : ∀ (vs : Nat → Value) (w9 : World) (ls9 : Nat → Bool), (∀ j : Nat, j < 14 → ls9 j = true) → ((ls9 13 = false → Ext wr w9) ∧ (ls9 13 = true → R w9)) → (vs 0 = .pointer (some ⟨gb, 0, none⟩)) → (vs 1 = .pointer (some ⟨gb, 0, none⟩)) → (vs 2 = .pointer (some ⟨gb, 0, none⟩)) → (vs 3 = .slice (some ⟨gp, 0, none⟩) n cp) → (vs 4 = .int .i64 (x : Int)) → (vs 5 = .slice (some ⟨sb, so, none⟩) n sc) → (vs 6 = .int .i64 (x : Int)) → (vs 7 = .pointer (some ⟨sb, so + x * 2, none⟩)) → (vs 8 = .pointer (some ⟨sb, so + x * 2 + 1, none⟩)) → (vs 9 = .int .i64 bl) → (vs 10 = .int .i64 (k : Int)) → (vs 11 = .agg #[.int .i64 bl, .int .i64 (k : Int), .int .u8 0, .string ⟨#[]⟩]) → (vs 12 = .pointer (some ⟨gp, x * 4, none⟩)) → Q .normal (((((((((((((aZ.put (some 37) (vs 0)).put (some 38) (vs 1)).put (some 39) (vs 2)).put (some 40) (vs 3)).put (some 41) (vs 4)).put (some 42) (vs 5)).put (some 43) (vs 6)).put (some 44) (vs 7)).put (some 45) (vs 8)).put (some 46) (vs 9)).put (some 47) (vs 10)).put (some 48) (vs 11)).put (some 49) (vs 12)) w9) : (regOf Tryz.f52 8).wp Tryz.prog Q aZ wr := by
  conv => arg 2; whnf
  refine wp_region_said3 (fun i v wz => match i with
    | 0 => v = .pointer (some ⟨gb, 0, none⟩)
    | 1 => v = .pointer (some ⟨gb, 0, none⟩)
    | 2 => v = .pointer (some ⟨gb, 0, none⟩)
    | 3 => v = .slice (some ⟨gp, 0, none⟩) n cp
    | 4 => v = .int .i64 (x : Int)
    | 5 => v = .slice (some ⟨sb, so, none⟩) n sc
    | 6 => v = .int .i64 (x : Int)
    | 7 => v = .pointer (some ⟨sb, so + x * 2, none⟩)
    | 8 => v = .pointer (some ⟨sb, so + x * 2 + 1, none⟩)
    | 9 => v = .int .i64 bl
    | 10 => v = .int .i64 (k : Int)
    | 11 => v = .agg #[.int .i64 bl, .int .i64 (k : Int), .int .u8 0, .string ⟨#[]⟩]
    | 12 => v = .pointer (some ⟨gp, x * 4, none⟩)
    | _ => True) (fun ls vs wz => (ls 13 = false → Ext wr wz) ∧ (ls 13 = true → R wz)) (by kernel_rfl) (by kernel_rfl) (by rw [hsz]; kernel_rfl) ?_ ?_ ?_
  · exact ⟨fun _ => (Ext.refl _).drew, fun e => (by cases e)⟩
  · refine ⟨?_, ?_, ?_, ?_, ?_, ?_, ?_, ?_, ?_, ?_, ?_, ?_, ?_, ?_, trivial⟩
    · intro ls vs a w1 hi hJ hold hdep hdon hcl K hK
      have q9 : a.tmps[9]?.getD undef = .pointer (some ⟨gb, 0, none⟩) := (hold 9 (by kernel_rfl)).trans o9
      rw [if_pos (by rfl)]
      clear hold hdep hend hdon hcl o1 o9 o10 o11
      have HJ := Lib.hid hJ
      clear hJ
      go_simp
      exact hK _ _ (fun _ _ _ h => h) HJ.out rfl
    · intro ls vs a w1 hi hJ hold hdep hdon hcl K hK
      have q37 : a.tmps[37]?.getD undef = .pointer (some ⟨gb, 0, none⟩) := (hdep 0 37 (by kernel_rfl) (by kernel_rfl)).2.1.trans (hdep 0 37 (by kernel_rfl) (by kernel_rfl)).2.2
      rw [if_pos (by rfl)]
      clear hold hdep hend hdon hcl o1 o9 o10 o11
      have HJ := Lib.hid hJ
      clear hJ
      go_simp
      exact hK _ _ (fun _ _ _ h => h) HJ.out rfl
    · intro ls vs a w1 hi hJ hold hdep hdon hcl K hK
      have q38 : a.tmps[38]?.getD undef = .pointer (some ⟨gb, 0, none⟩) := (hdep 1 38 (by kernel_rfl) (by kernel_rfl)).2.1.trans (hdep 1 38 (by kernel_rfl) (by kernel_rfl)).2.2
      rw [if_pos (by rfl)]
      clear hold hdep hend hdon hcl o1 o9 o10 o11
      have HJ := Lib.hid hJ
      clear hJ
      go_simp
      exact hK _ _ (fun _ _ _ h => h) HJ.out rfl
    · intro ls vs a w1 hi hJ hold hdep hdon hcl K hK
      have q39 : a.tmps[39]?.getD undef = .pointer (some ⟨gb, 0, none⟩) := (hdep 2 39 (by kernel_rfl) (by kernel_rfl)).2.1.trans (hdep 2 39 (by kernel_rfl) (by kernel_rfl)).2.2
      have hn13 : ls 13 = false := by
        cases e : ls 13 with
        | false => rfl
        | true =>
          replace e := hcl 13 3 e (by kernel_rfl)
          rw [show ls 3 = false from hi] at e
          cases e
      rw [if_pos (by rfl)]
      clear hold hdep hend hdon hcl o1 o9 o10 o11
      have HJ := Lib.hid hJ
      clear hJ
      have hx := HJ.out.1 hn13
      go_simp
      exact hK _ _ (fun _ _ _ h => h) HJ.out rfl
    · intro ls vs a w1 hi hJ hold hdep hdon hcl K hK
      have q11 : a.tmps[11]?.getD undef = .int .i64 (x : Int) := (hold 11 (by kernel_rfl)).trans o11
      rw [if_pos (by rfl)]
      clear hold hdep hend hdon hcl o1 o9 o10 o11
      have HJ := Lib.hid hJ
      clear hJ
      go_simp
      exact hK _ _ (fun _ _ _ h => h) HJ.out rfl
    · intro ls vs a w1 hi hJ hold hdep hdon hcl K hK
      have q1 : a.tmps[1]?.getD undef = .slice (some ⟨sb, so, none⟩) n sc := (hold 1 (by kernel_rfl)).trans o1
      rw [if_pos (by rfl)]
      clear hold hdep hend hdon hcl o1 o9 o10 o11
      have HJ := Lib.hid hJ
      clear hJ
      go_simp
      exact hK _ _ (fun _ _ _ h => h) HJ.out rfl
    · intro ls vs a w1 hi hJ hold hdep hdon hcl K hK
      have q11 : a.tmps[11]?.getD undef = .int .i64 (x : Int) := (hold 11 (by kernel_rfl)).trans o11
      rw [if_pos (by rfl)]
      clear hold hdep hend hdon hcl o1 o9 o10 o11
      have HJ := Lib.hid hJ
      clear hJ
      go_simp
      exact hK _ _ (fun _ _ _ h => h) HJ.out rfl
    · intro ls vs a w1 hi hJ hold hdep hdon hcl K hK
      have q42 : a.tmps[42]?.getD undef = .slice (some ⟨sb, so, none⟩) n sc := (hdep 5 42 (by kernel_rfl) (by kernel_rfl)).2.1.trans (hdep 5 42 (by kernel_rfl) (by kernel_rfl)).2.2
      have q43 : a.tmps[43]?.getD undef = .int .i64 (x : Int) := (hdep 6 43 (by kernel_rfl) (by kernel_rfl)).2.1.trans (hdep 6 43 (by kernel_rfl) (by kernel_rfl)).2.2
      rw [if_pos (by rfl)]
      clear hold hdep hend hdon hcl o1 o9 o10 o11
      have HJ := Lib.hid hJ
      clear hJ
      go_simp
      exact hK _ _ (fun _ _ _ h => h) HJ.out rfl
    · intro ls vs a w1 hi hJ hold hdep hdon hcl K hK
      have q44 : a.tmps[44]?.getD undef = .pointer (some ⟨sb, so + x * 2, none⟩) := (hdep 7 44 (by kernel_rfl) (by kernel_rfl)).2.1.trans (hdep 7 44 (by kernel_rfl) (by kernel_rfl)).2.2
      rw [if_pos (by rfl)]
      clear hold hdep hend hdon hcl o1 o9 o10 o11
      have HJ := Lib.hid hJ
      clear hJ
      go_simp
      exact hK _ _ (fun _ _ _ h => h) HJ.out rfl
    · intro ls vs a w1 hi hJ hold hdep hdon hcl K hK
      have q45 : a.tmps[45]?.getD undef = .pointer (some ⟨sb, so + x * 2 + 1, none⟩) := (hdep 8 45 (by kernel_rfl) (by kernel_rfl)).2.1.trans (hdep 8 45 (by kernel_rfl) (by kernel_rfl)).2.2
      have hn13 : ls 13 = false := by
        cases e : ls 13 with
        | false => rfl
        | true =>
          replace e := hcl 13 9 e (by kernel_rfl)
          rw [show ls 9 = false from hi] at e
          cases e
      rw [if_pos (by rfl)]
      clear hold hdep hend hdon hcl o1 o9 o10 o11
      have HJ := Lib.hid hJ
      clear hJ
      have hx := HJ.out.1 hn13
      go_simp
      exact hK _ _ (fun _ _ _ h => h) HJ.out rfl
    · intro ls vs a w1 hi hJ hold hdep hdon hcl K hK
      have q10 : a.tmps[10]?.getD undef = .int .i64 (k : Int) := (hold 10 (by kernel_rfl)).trans o10
      rw [if_pos (by rfl)]
      clear hold hdep hend hdon hcl o1 o9 o10 o11
      have HJ := Lib.hid hJ
      clear hJ
      go_simp
      exact hK _ _ (fun _ _ _ h => h) HJ.out rfl
    · intro ls vs a w1 hi hJ hold hdep hdon hcl K hK
      have q46 : a.tmps[46]?.getD undef = .int .i64 bl := (hdep 9 46 (by kernel_rfl) (by kernel_rfl)).2.1.trans (hdep 9 46 (by kernel_rfl) (by kernel_rfl)).2.2
      have q47 : a.tmps[47]?.getD undef = .int .i64 (k : Int) := (hdep 10 47 (by kernel_rfl) (by kernel_rfl)).2.1.trans (hdep 10 47 (by kernel_rfl) (by kernel_rfl)).2.2
      rw [if_pos (by rfl)]
      clear hold hdep hend hdon hcl o1 o9 o10 o11
      have HJ := Lib.hid hJ
      clear hJ
      go_simp
      exact hK _ _ (fun _ _ _ h => h) HJ.out rfl
    · intro ls vs a w1 hi hJ hold hdep hdon hcl K hK
      have q40 : a.tmps[40]?.getD undef = .slice (some ⟨gp, 0, none⟩) n cp := (hdep 3 40 (by kernel_rfl) (by kernel_rfl)).2.1.trans (hdep 3 40 (by kernel_rfl) (by kernel_rfl)).2.2
      have q41 : a.tmps[41]?.getD undef = .int .i64 (x : Int) := (hdep 4 41 (by kernel_rfl) (by kernel_rfl)).2.1.trans (hdep 4 41 (by kernel_rfl) (by kernel_rfl)).2.2
      rw [if_pos (by rfl)]
      clear hold hdep hend hdon hcl o1 o9 o10 o11
      have HJ := Lib.hid hJ
      clear hJ
      go_simp
      exact hK _ _ (fun _ _ _ h => h) HJ.out rfl
    · intro ls vs a w1 hi hJ hold hdep hdon hcl K hK
      have q48 : a.tmps[48]?.getD undef = .agg #[.int .i64 bl, .int .i64 (k : Int), .int .u8 0, .string ⟨#[]⟩] := (hdep 11 48 (by kernel_rfl) (by kernel_rfl)).2.1.trans (hdep 11 48 (by kernel_rfl) (by kernel_rfl)).2.2
      have q49 : a.tmps[49]?.getD undef = .pointer (some ⟨gp, x * 4, none⟩) := (hdep 12 49 (by kernel_rfl) (by kernel_rfl)).2.1.trans (hdep 12 49 (by kernel_rfl) (by kernel_rfl)).2.2
      clear hold hdep hend hdon o1 o9 o10 o11
      have HJ := Lib.hid hJ
      clear hJ
      obtain ⟨j1, j2⟩ := HJ.out
      have hx := j1 hi
      rw [if_pos (by rfl)]
      refine wp_store_mid 157 (.tmp 49) (.tmp 48) (by rfl) gp (x * 4) #[.int .i64 bl, .int .i64 (k : Int), .int .u8 0, .string ⟨#[]⟩] (by simpa [Act.eval, Array.getD_eq_getD_getElem?] using q49) (by simpa [Act.eval, Array.getD_eq_getD_getElem?] using q48) (HTH.out w1 hx) (by obtain ⟨i0, hi0, -, hz1, -⟩ := info_parts info157; rw [hi0]; simp [hz1]) (all_oneCell_toArray (ptC_one ⟨bl, (k : Int), 0, ⟨#[]⟩⟩)) ?_
      exact hK undef _ (fun _ _ _ h => h) ⟨fun e => (by simp at e), fun _ => HS.out w1 hx⟩ trivial
  · intro vs w9 ls9 hl9 hJ9 hφ
    have e0 := hφ 0 (by kernel_rfl)
    have e1 := hφ 1 (by kernel_rfl)
    have e2 := hφ 2 (by kernel_rfl)
    have e3 := hφ 3 (by kernel_rfl)
    have e4 := hφ 4 (by kernel_rfl)
    have e5 := hφ 5 (by kernel_rfl)
    have e6 := hφ 6 (by kernel_rfl)
    have e7 := hφ 7 (by kernel_rfl)
    have e8 := hφ 8 (by kernel_rfl)
    have e9 := hφ 9 (by kernel_rfl)
    have e10 := hφ 10 (by kernel_rfl)
    have e11 := hφ 11 (by kernel_rfl)
    have e12 := hφ 12 (by kernel_rfl)
    have hq := hend vs w9 ls9 hl9 hJ9 e0 e1 e2 e3 e4 e5 e6 e7 e8 e9 e10 e11 e12
    simp only [Act.put] at hq
    simp only [putAll, Act.put]
    exact hq
set_option maxRecDepth 100000 in
set_option maxHeartbeats 2000000 in
theorem newBook_no (P : Pw) (a : Option Addr) (ss : List Se) (sc : Nat) (sd : Int) (w : World) (hp : PlanAt w P) (hb : PlanB P) (hs : SetsAt w a ss) (hn : ss.length ≤ 9223372036854775807) (hl : ∀ i, i < ss.length → (eth ss i).lv.xs.length ≤ 9223372036854775807) (v : Int) (hv : checkE P ss = v) (h0 : v ≠ 0) :
    Calls Tryz.prog 52 #[planV P, .slice a ss.length sc, .int .u64 sd] w (Ret (.tuple #[.pointer none, .int .i64 v]) w) := by
  have hck := fun W (e : Ext w W) => check_any P a ss sc W (hp.ext e) hb (hs.ext e) hn hl
  rw [hv] at hck
  obtain ⟨fs, fa, fc, fo, ga, gc⟩ := P
  have HCK := Lib.hid hck
  clear hck hp hb hs hl hv
  go_enter Tryz.func52, Tryz.ntmps52
  go_wp2_with (fail)
  generalize hw1 : World.alloc _ _ = w1
  obtain ⟨he, o1, -⟩ := alloc1 hw1
  obtain ⟨b0, b1⟩ := obj_cells2 o1
  have E1 := Ext.refl w1
  clear hw1 o1
  have HE := Lib.hid he
  clear he
  have hv0 : (v != 0) = true := by simpa using h0
  go_wp2_with (go_at_call 69; (with_reducible refine (HCK.out _ HE.out).mono ?_); rintro e w2 ⟨rfl, he2⟩)
  go_ret2
  exact ⟨rfl, HE.out.trans he2⟩
/-- The points of a new book. -/
def newPts (P : Pw) (ss : List Se) (sd : Int) : List Pt := ptsTo ss (ordS P ss sd) ss.length
set_option maxRecDepth 100000 in
set_option maxHeartbeats 4000000 in
theorem newBook_ok (P : Pw) (a : Option Addr) (ss : List Se) (sc : Nat) (sd : Int) (w : World) (hp : PlanAt w P) (hb : PlanB P) (hs : SetsAt w a ss) (hl : ∀ i, i < ss.length → (eth ss i).lv.xs.length ≤ 9223372036854775807) (hv : checkE P ss = 0) (hsd : 0 ≤ sd ∧ sd < 18446744073709551616) :
    Calls Tryz.prog 52 #[planV P, .slice a ss.length sc, .int .u64 sd] w (fun e w' => ∃ gb V2 V6, e = .returned (.tuple #[.pointer (some ⟨gb, 0, none⟩), .int .i64 0]) ∧ Ext w w' ∧ RowsAt w' w.heap.size [rwB gb V2 V6, rwP V2 (newPts P ss sd), rwI V6 (ordS P ss sd)]) := by
  have hn := (checkE_ok hv).2.1
  have hck := fun W (e : Ext w W) => check_any P a ss sc W (hp.ext e) hb (hs.ext e) (by omega) hl
  have hor := fun W (e : Ext w W) => order_any P a ss sc sd W (hp.ext e) hb (hs.ext e) hn hv hsd
  rw [hv] at hck
  have hLN : (ordS P ss sd).length = ss.length := ordL_len (by omega)
  have hLA : ∀ k, k < ss.length → ∃ i : Nat, i < ss.length ∧ nth (ordS P ss sd) k = (i : Int) := fun k hk => ordL_at (by omega) hk
  unfold newPts
  obtain ⟨L, hL⟩ : ∃ L, L = ordS P ss sd := ⟨_, rfl⟩
  rw [show ordL (fun i => gL P.fs (eth ss i)) ss.length sd = L from hL.symm] at hor
  rw [← hL] at hLN hLA ⊢
  obtain ⟨fs, fa, fc, fo, ga, gc⟩ := P
  have HCK := Lib.hid hck; have HOR := Lib.hid hor; have HLN := Lib.hid hLN; have HLA := Lib.hid hLA; have HSE := Lib.hid hs
  obtain ⟨n, hnn⟩ : ∃ n, n = ss.length := ⟨_, rfl⟩
  have HNN := Lib.hid hnn
  rw [← hnn] at hn HLN HLA HCK HOR ⊢
  clear hck hor hp hb hs hl hv hL hLN hLA hnn
  go_enter Tryz.func52, Tryz.ntmps52
  go_wp2_with (fail)
  generalize hw1 : World.alloc _ _ = w1
  obtain ⟨he, o1, -⟩ := alloc1 hw1
  obtain ⟨b0, b1⟩ := obj_cells2 o1
  have E1 := Ext.refl w1
  clear hw1 o1
  have HE := Lib.hid he
  clear he
  go_upto_region 4 with (go_at_call 69; (with_reducible refine (HCK.out _ HE.out).mono ?_); rintro e w2 ⟨rfl, he2⟩)
  obtain ⟨pb, hpb⟩ : ∃ pb, pb = w.heap.size := ⟨_, rfl⟩
  rw [← hpb] at b0 b1 ⊢
  have p0 := fun W (e : Ext w2 W) => b0 W (he2.trans e)
  have p1 := fun W (e : Ext w2 W) => b1 W (he2.trans e)
  have HE2 := Lib.hid (HE.out.trans he2)
  have HMK := Lib.hid (run_madeP n (by omega))
  have HMF : Hid (∀ W, Ext w2 W → ∀ L, RowsAt W w2.heap.size L → Ext W (madeP W n) ∧ RowsAt (madeP W n) w2.heap.size (rwP (.slice (some ⟨W.heap.size, 0, none⟩) n n) (List.replicate n ptZ) :: L)) := fun W e L h => madeP_facts (by omega) e.size h
  have HCALL : Hid (∀ W, Ext w2 W → Calls Tryz.prog 93 #[.agg #[.slice fa fs.length fc, .slice ga fo.length gc], .slice a n sc, .int .u64 sd] W (RetI L W)) := fun W e => HOR.out W (HE2.out.trans e)
  clear b0 b1 E1 he2 HCK HOR hpb
  refine nb_law p0 p1 HMK HMF HCALL _ (by rfl) rfl rfl rfl ?_
  intro vs w9 ls9 hl9 hJ9 e0 e1 e2 e3 e4 e5 e6 e7 e8 e9
  simp only [Act.put, List.setIfInBounds_toArray, List.set_cons_zero, List.set_cons_succ]
  rw [e0, e1, e3, e4, e5]
  obtain ⟨j1, j2, -, -, j5, j6⟩ := hJ9
  obtain ⟨gp, hgp⟩ := j2 (hl9 2 (by omega))
  obtain ⟨gb, hgb, hrows⟩ := j5 (hl9 8 (by omega))
  rw [j6 (hl9 9 (by omega)), hgb]
  obtain ⟨oa, oc, ho⟩ := slice_row (hrows.own (rwI (vs 6) L) (by simp))
  have ho' : vs 6 = .slice oa n oc := by rw [← HLN.out]; exact ho
  rw [hgp, ho'] at hrows ⊢
  have HR9 : Hid (Ext w2 w9 ∧ RowsAt w9 w2.heap.size [rwB gb (.slice (some ⟨gp, 0, none⟩) n n) (.slice oa n oc), rwP (.slice (some ⟨gp, 0, none⟩) n n) (ptsTo ss L 0), rwI (.slice oa n oc) L]) := by
    refine ⟨j1, ?_⟩
    rw [ptsTo, ← HNN.out]; exact hrows
  generalize vs 7 = V7
  have hB : w9.heap[gb]? = some (.cells #[.slice (some ⟨gp, 0, none⟩) n n, .slice oa n oc] 155 (0, 0)) := row_block (sz := 2) (n := 1) (hrows.own _ (List.mem_cons_self))
  obtain ⟨c0, c1⟩ := obj_cells2 hB
  have E9 := Ext.refl w9
  clear j1 j2 j5 j6 hgp hgb hrows ho ho' hB e0 e1 e2 e3 e4 e5 e6 e7 e8 e9 hl9 p0 p1 HMK HMF HCALL
  go_wp2_with (fail)
  clear c0 c1 E9
  go_loopw [32] (fun i wr => ∃ k : Nat, k ≤ n ∧ i = .int .i64 k ∧ Hid (Ext w2 wr ∧ RowsAt wr w2.heap.size [rwB gb (.slice (some ⟨gp, 0, none⟩) n n) (.slice oa n oc), rwP (.slice (some ⟨gp, 0, none⟩) n n) (ptsTo ss L k), rwI (.slice oa n oc) L])) (fun i _ => n - (intOf i).toNat)
  case atStart => exact ⟨0, Nat.zero_le _, rfl, HR9⟩
  case round =>
    obtain ⟨k, hk, rfl, hh⟩ := hrel
    clear HR9
    by_cases hlt : k < n
    · obtain ⟨x, hx, hxe⟩ := HLA.out k hlt
      have hi := (OwnI.ints (show OwnI wr w2.heap.size (.slice oa n oc) L from hh.out.2.own (rwI (.slice oa n oc) L) (by simp))).1
      obtain ⟨xo, xp, rfl, d0⟩ := hi.at k (by rw [HLN.out]; exact hlt)
      rw [hxe] at d0
      obtain ⟨sb, so, rfl, s0, s1⟩ := set_at (HSE.out.ext (HE2.out.trans hh.out.1)).row x (by rw [← HNN.out]; exact hx)
      obtain ⟨bl, hbl⟩ : ∃ bl, bl = (eth ss x).blk := ⟨_, rfl⟩
      rw [← hbl] at s1
      have hB : wr.heap[gb]? = some (.cells #[.slice (some ⟨gp, 0, none⟩) n n, .slice (some ⟨xo, xp, none⟩) n oc] 155 (0, 0)) := row_block (sz := 2) (n := 1) (hh.out.2.own _ (List.mem_cons_self))
      have hb0 := (obj_cells2 hB).1
      have hi0 : (0 : Int) ≤ (x : Int) := by omega
      have hi1 : (x : Int) < (n : Int) := by omega
      have hown : OwnP wr w2.heap.size (.slice (some ⟨gp, 0, none⟩) n n) (ptsTo ss L k) := hh.out.2.own (rwP (.slice (some ⟨gp, 0, none⟩) n n) (ptsTo ss L k)) (by simp)
      have hxl : x < (ptsTo ss L k).length := by rw [ptsTo_len, ← HNN.out]; exact hx
      have HTH : Hid (∀ W, Ext wr W → W.there gp (x * 4) 4) := fun W e => (hown.ext e).there ptC_len x hxl
      have hgp2 : w2.heap.size ≤ gp := (hown.lt gp rfl).1
      obtain ⟨R, hR⟩ : ∃ R : World → Prop, R = fun W => Ext w2 W ∧ RowsAt W w2.heap.size [rwB gb (.slice (some ⟨gp, 0, none⟩) n n) (.slice (some ⟨xo, xp, none⟩) n oc), rwP (.slice (some ⟨gp, 0, none⟩) n n) (ptsTo ss L (k + 1)), rwI (.slice (some ⟨xo, xp, none⟩) n oc) L] := ⟨_, rfl⟩
      have HS : Hid (∀ W, Ext wr W → R (W.setCells gp (x * 4) [.int .i64 bl, .int .i64 (k : Int), .int .u8 0, .string ⟨#[]⟩])) := fun W e => by
        rw [hR]
        refine ⟨ext_setCells hgp2 _ _ _ (hh.out.1.trans e), ?_⟩
        have e1 : ptsTo ss L (k + 1) = (ptsTo ss L k).set x ⟨bl, (k : Int), 0, ⟨#[]⟩⟩ := by
          rw [ptsTo, hxe, Int.toNat_natCast, hbl]
        rw [e1]
        have hso := (hown.ext e).setRow ptC_len x hxl ⟨bl, (k : Int), 0, ⟨#[]⟩⟩
        have hxx : ExtX gp W (W.setCells gp (x * 4) (ptC ⟨bl, (k : Int), 0, ⟨#[]⟩⟩)) := extX_setCells _ _ (ExtX.refl gp W) rfl
        exact RowsAt.wrMid (w' := W.setCells gp (x * 4) (ptC ⟨bl, (k : Int), 0, ⟨#[]⟩⟩)) (L1 := [rwB gb (.slice (some ⟨gp, 0, none⟩) n n) (.slice (some ⟨xo, xp, none⟩) n oc)]) (L2 := [rwI (.slice (some ⟨xo, xp, none⟩) n oc) L]) (r := rwP (.slice (some ⟨gp, 0, none⟩) n n) (ptsTo ss L k)) (r' := rwP (.slice (some ⟨gp, 0, none⟩) n n) ((ptsTo ss L k).set x ⟨bl, (k : Int), 0, ⟨#[]⟩⟩)) (hh.out.2.ext e) hxx rfl rfl hso
      have HR := Lib.hid hR
      have Er := Ext.refl wr
      clear hi hxe hB hown hxl hgp2 hR hbl hh s0
      go_upto_region 8 with fail
      clear d0 Er
      have hd1 := s1
      clear s1
      refine np_law hi0 hi1 hb0 hd1 HTH HS _ (by rfl) rfl rfl rfl rfl ?_
      intro vs w9 ls9 hl9 hJ9 e0 e1 e2 e3 e4 e5 e6 e7 e8 e9 e10 e11 e12
      simp only [Act.put, List.setIfInBounds_toArray, List.set_cons_zero, List.set_cons_succ]
      rw [e0, e1, e2, e3, e4, e5, e6, e7, e8, e9, e10, e11, e12]
      obtain ⟨-, j2⟩ := hJ9
      have hRR := j2 (hl9 13 (by omega))
      rw [HR.out] at hRR
      have HRR := Lib.hid hRR
      clear hRR j2 HR HS HTH hb0 hd1 e0 e1 e2 e3 e4 e5 e6 e7 e8 e9 e10 e11 e12 hl9
      go_wp2_with (fail)
      go_roundw
      case rel => exact ⟨k + 1, by omega, by go_num, HRR⟩
      case measure => first | (simp [intOf]; done) | (simp [intOf]; omega)
    · obtain rfl : k = n := by omega
      go_wp2_with (fail)
      go_ret2
      exact ⟨gb, _, _, rfl, HE2.out.trans hh.out.1, hh.out.2.down HE2.out.size⟩
end Go.Proofs.YtplbofhgmflnlaaGreat
end
section
/-
  Walks: a book's find, some, Open, Next, State, Done.
-/
set_option linter.unusedVariables false
set_option linter.unusedSimpArgs false
set_option linter.unnecessarySimpa false
namespace Go.Proofs.YtplbofhgmflnlaaGreat
open Go.RowKit
/-- A book in memory: where its struct, its points and its order lie. -/
structure Bp where
  gb : Nat
  pa : Option Addr
  pc : Nat
  oa : Option Addr
  oc : Nat
abbrev bkL (x : Bp) (pts : List Pt) (ord : List Int) : List Rw := [rwB x.gb (.slice x.pa pts.length x.pc) (.slice x.oa ord.length x.oc), rwP (.slice x.pa pts.length x.pc) pts, rwI (.slice x.oa ord.length x.oc) ord]
def BkAt (w : World) (B : Nat) (x : Bp) (pts : List Pt) (ord : List Int) : Prop := RowsAt w B (bkL x pts ord)
abbrev bkV (x : Bp) : Value := .pointer (some ⟨x.gb, 0, none⟩)
section
variable {w : World} {B : Nat} {x : Bp} {pts : List Pt} {ord : List Int}
theorem BkAt.ext {w' : World} (h : BkAt w B x pts ord) (e : Ext w w') : BkAt w' B x pts ord := RowsAt.ext h e
theorem BkAt.blk (h : BkAt w B x pts ord) : w.heap[x.gb]? = some (.cells #[.slice x.pa pts.length x.pc, .slice x.oa ord.length x.oc] 155 (0, 0)) := row_block (sz := 2) (n := 1) (RowsAt.own h _ (List.mem_cons_self))
theorem BkAt.opts (h : BkAt w B x pts ord) : OwnP w B (.slice x.pa pts.length x.pc) pts := RowsAt.own h (rwP (.slice x.pa pts.length x.pc) pts) (by simp)
theorem BkAt.oord (h : BkAt w B x pts ord) : OwnI w B (.slice x.oa ord.length x.oc) ord := RowsAt.own h (rwI (.slice x.oa ord.length x.oc) ord) (by simp)
theorem BkAt.ints (h : BkAt w B x pts ord) : Ints w x.oa ord := (OwnI.ints h.oord).1
theorem BkAt.cap (h : BkAt w B x pts ord) : ord.length ≤ x.oc := (OwnI.ints h.oord).2.2
theorem BkAt.pt (h : BkAt w B x pts ord) (i : Nat) (hi : i < pts.length) : ∃ gp, x.pa = some ⟨gp, 0, none⟩ ∧ B ≤ gp ∧ gp < w.heap.size ∧
    (∀ W, Ext w W → W.cell? ⟨gp, i * 4, none⟩ = some (.int .i64 (qth pts i).blk)) ∧ (∀ W, Ext w W → W.cell? ⟨gp, i * 4 + 1, none⟩ = some (.int .i64 (qth pts i).place)) ∧
    (∀ W, Ext w W → W.cell? ⟨gp, i * 4 + 2, none⟩ = some (.int .u8 (qth pts i).st)) ∧ (∀ W, Ext w W → W.cell? ⟨gp, i * 4 + 3, none⟩ = some (.string (qth pts i).rs)) := by
  obtain ⟨g, h1, h2, h3, h4⟩ := h.opts.cell ptC_len i hi
  rw [← qth_eq pts i hi] at h4
  refine ⟨g, h1, h2, h3, fun W e => e.cell ?_, fun W e => e.cell ?_, fun W e => e.cell ?_, fun W e => e.cell ?_⟩
  · simpa [ptC] using h4 0 (by omega)
  · simpa [ptC] using h4 1 (by omega)
  · simpa [ptC] using h4 2 (by omega)
  · simpa [ptC] using h4 3 (by omega)
end
theorem find_nil (k : Int) (w : World) : Calls Tryz.prog 96 #[.pointer none, .int .i64 k] w (Ret (.tuple #[.pointer none, .int .i64 1]) w) := by
  go_enter Tryz.func96, Tryz.ntmps96
  go_wp2_with (fail)
  go_ret2
  exact ⟨rfl, Ext.refl _⟩
set_option maxHeartbeats 1000000 in
theorem find_no (B : Nat) (x : Bp) (pts : List Pt) (ord : List Int) (k : Int) (w : World) (h : BkAt w B x pts ord) (hk : k < 0 ∨ (pts.length : Int) ≤ k) : Calls Tryz.prog 96 #[bkV x, .int .i64 k] w (Ret (.tuple #[.pointer none, .int .i64 3]) w) := by
  obtain ⟨b0, b1⟩ := obj_cells2 h.blk
  have E := Ext.refl w
  obtain ⟨gb, pa, pc, oa, oc⟩ := x
  simp only at b0 b1
  generalize pts.length = n at *
  clear h
  by_cases h0 : k < 0
  · clear hk
    go_enter Tryz.func96, Tryz.ntmps96
    go_wp2_with (fail)
    go_ret2
    exact ⟨rfl, Ext.refl _⟩
  · have hk : (n : Int) ≤ k := by omega
    go_enter Tryz.func96, Tryz.ntmps96
    go_wp2_with (fail)
    go_ret2
    exact ⟨rfl, Ext.refl _⟩
set_option maxHeartbeats 1000000 in
theorem find_ok (B : Nat) (x : Bp) (pts : List Pt) (ord : List Int) (k : Nat) (gp : Nat) (w : World) (h : BkAt w B x pts ord) (hk : k < pts.length) (hp : x.pa = some ⟨gp, 0, none⟩) : Calls Tryz.prog 96 #[bkV x, .int .i64 (k : Int)] w (Ret (.tuple #[.pointer (some ⟨gp, k * 4, none⟩), .int .i64 0]) w) := by
  obtain ⟨b0, b1⟩ := obj_cells2 h.blk
  have E := Ext.refl w
  obtain ⟨gb, pa, pc, oa, oc⟩ := x
  simp only at b0 b1 hp
  subst hp
  generalize pts.length = n at *
  clear h
  have h0 : (0 : Int) ≤ (k : Int) := by omega
  have h1 : (k : Int) < (n : Int) := by omega
  go_enter Tryz.func96, Tryz.ntmps96
  go_wp2_with (fail)
  go_ret2
  exact ⟨rfl, Ext.refl _⟩
end Go.Proofs.YtplbofhgmflnlaaGreat
end
section
/-
  Walks: a book's some, Open, Next, State, Done.
-/
set_option linter.unusedVariables false
set_option linter.unusedSimpArgs false
namespace Go.Proofs.YtplbofhgmflnlaaGreat
open Go.RowKit
def someP (pts : List Pt) (bl st : Int) (i : Int) : Bool := ((qth pts i.toNat).blk == bl) && ((qth pts i.toNat).st == st)
theorem enters129 : Enters Tryz.prog 129 := Enters.mk Tryz.func129 rfl rfl
theorem enters104 : Enters Tryz.prog 104 := Enters.mk Tryz.func104 rfl rfl
set_option maxHeartbeats 2000000 in
theorem some1_any (B : Nat) (x : Bp) (pts : List Pt) (ord : List Int) (i : Nat) (bl st : Int) (Bb Bl Bt : Nat) (w : World) (h : BkAt w B x pts ord) (hi : i < pts.length)
    (c0 : ∀ W, Ext w W → W.cell? ⟨Bb, 0, none⟩ = some (bkV x)) (c1 : ∀ W, Ext w W → W.cell? ⟨Bl, 0, none⟩ = some (.int .i64 bl)) (c2 : ∀ W, Ext w W → W.cell? ⟨Bt, 0, none⟩ = some (.int .u8 st)) :
    Calls Tryz.prog 129 #[.int .i64 (i : Int), .pointer (some ⟨Bb, 0, none⟩), .pointer (some ⟨Bl, 0, none⟩), .pointer (some ⟨Bt, 0, none⟩)] w (Ret (.bool (someP pts bl st (i : Int))) w) := by
  obtain ⟨b0, b1⟩ := obj_cells2 h.blk
  obtain ⟨gp, hgp, -, -, d0, d1, d2, d3⟩ := h.pt i hi
  have E := Ext.refl w
  obtain ⟨gb, pa, pc, oa, oc⟩ := x
  simp only at b0 b1 c0 hgp
  subst hgp
  have HR : Hid (someP pts bl st (i : Int) = (((qth pts i).blk == bl) && ((qth pts i).st == st))) := rfl
  rw [HR.out]
  obtain ⟨p, hp⟩ : ∃ p, p = (qth pts i).blk := ⟨_, rfl⟩
  obtain ⟨q, hq⟩ : ∃ q, q = (qth pts i).st := ⟨_, rfl⟩
  rw [← hp] at d0 ⊢
  rw [← hq] at d2 ⊢
  generalize pts.length = n at *
  clear h d1 d3 HR hp hq
  have h0 : (0 : Int) ≤ (i : Int) := by omega
  have h1 : (i : Int) < (n : Int) := by omega
  have hr0 := Ext.refl w
  cases T : (p == bl)
  · go_enter Tryz.func129, Tryz.ntmps129
    go_wp2_with (fail)
    refine wp_region_ext (by kernel_rfl) (by kernel_rfl) hr0 ?_
    repeat (first | go_big_quiet_step (((fail))) | quiet_step (((fail))))
    refine wpQuiet_nil ?_
    rintro _ ⟨nq, rfl⟩
    have hq2 := nq.ok
    go_wp2_with (fail)
    go_ret
    exact ⟨rfl, hq2⟩
  · go_enter Tryz.func129, Tryz.ntmps129
    go_wp2_with (fail)
    refine wp_region_ext (by kernel_rfl) (by kernel_rfl) hr0 ?_
    repeat (first | go_big_quiet_step (((fail))) | quiet_step (((fail))))
    refine wpQuiet_nil ?_
    rintro _ ⟨nq, rfl⟩
    have hq2 := nq.ok
    go_wp2_with (fail)
    go_ret
    exact ⟨by simp, hq2⟩
/-- All numbers of a list are points. -/
def InB (n : Nat) (l : List Int) : Prop := ∀ y ∈ l, ∃ i : Nat, i < n ∧ y = (i : Int)
theorem InB.at {n : Nat} {l : List Int} (h : InB n l) (k : Nat) (hk : k < l.length) : ∃ i : Nat, i < n ∧ nth l k = (i : Int) := by
  rw [nth_eq _ _ hk]; exact h _ (List.getElem_mem _)
set_option maxHeartbeats 2000000 in
theorem some_any (B : Nat) (x : Bp) (pts : List Pt) (ord : List Int) (a : Option Addr) (l : List Int) (c : Nat) (bl st : Int) (w : World) (h : BkAt w B x pts ord) (hl : Ints w a l) (hb : InB pts.length l) (hn : l.length ≤ 1000000) :
    Calls Tryz.prog 97 #[bkV x, .slice a l.length c, .int .i64 bl, .int .u8 st] w (Ret (.bool (l.any (someP pts bl st))) w) := by
  have H := Lib.hid h; have HL := Lib.hid hl; have HB := Lib.hid hb
  clear h hl hb
  go_enter Tryz.func97, Tryz.ntmps97
  go_upto_region 1 with fail
  generalize hw1 : World.alloc _ _ = w1
  obtain ⟨he, o1, o2, o3, -⟩ := alloc3 hw1
  have HA : Hid (∀ i, i < l.length → Asks Tryz.prog 129 #[.pointer (some ⟨w.heap.size, 0, none⟩), .pointer (some ⟨w.heap.size + 1, 0, none⟩), .pointer (some ⟨w.heap.size + 2, 0, none⟩)] w1 (.int .i64 (nth l i)) (someP pts bl st (nth l i))) := fun i hi => ⟨enters129, fun W e => by
    obtain ⟨j, hj, hje⟩ := HB.out.at i hi
    rw [hje]
    have c0 := obj_cells1 o1; have c1 := obj_cells1 o2; have c2 := obj_cells1 o3
    exact some1_any B x pts ord j bl st _ _ _ W (H.out.ext (he.trans e)) hj (fun W' e' => c0 W' (e.trans e')) (fun W' e' => c1 W' (e.trans e')) (fun W' e' => c2 W' (e.trans e'))⟩
  have hcf := containsFunc_int 129 #[.pointer (some ⟨w.heap.size, 0, none⟩), .pointer (some ⟨w.heap.size + 1, 0, none⟩), .pointer (some ⟨w.heap.size + 2, 0, none⟩)] a l.length c l (someP pts bl st) w1 rfl (by omega) (HL.out.ext he) HA.out
  have HCF := Lib.hid hcf
  have HE := Lib.hid he
  clear hcf HA hw1 o1 o2 o3 he
  go_wp2_with (go_at_call 128; (with_reducible refine HCF.out.mono ?_); rintro e w2 ⟨rfl, he2⟩)
  go_ret
  exact ⟨rfl, HE.out.trans he2⟩
/-! ### Open -/
def openP (pts : List Pt) (i : Int) : Bool := (qth pts i.toNat).st != 0
/-- The points that are open, in their order. -/
def openL (pts : List Pt) (ord : List Int) : List Int := ord.filter fun i => !openP pts i
set_option maxHeartbeats 2000000 in
theorem open1_any (B : Nat) (x : Bp) (pts : List Pt) (ord : List Int) (i : Nat) (Bb : Nat) (w : World) (h : BkAt w B x pts ord) (hi : i < pts.length)
    (c0 : ∀ W, Ext w W → W.cell? ⟨Bb, 0, none⟩ = some (bkV x)) :
    Calls Tryz.prog 104 #[.int .i64 (i : Int), .pointer (some ⟨Bb, 0, none⟩)] w (Ret (.bool (openP pts (i : Int))) w) := by
  obtain ⟨b0, b1⟩ := obj_cells2 h.blk
  obtain ⟨gp, hgp, -, -, d0, d1, d2, d3⟩ := h.pt i hi
  have E := Ext.refl w
  obtain ⟨gb, pa, pc, oa, oc⟩ := x
  simp only at b0 b1 c0 hgp
  subst hgp
  have HR : Hid (openP pts (i : Int) = ((qth pts i).st != 0)) := rfl
  rw [HR.out]
  obtain ⟨q, hq⟩ : ∃ q, q = (qth pts i).st := ⟨_, rfl⟩
  rw [← hq] at d2 ⊢
  generalize pts.length = n at *
  clear h d0 d1 d3 HR hq
  have h0 : (0 : Int) ≤ (i : Int) := by omega
  have h1 : (i : Int) < (n : Int) := by omega
  go_enter Tryz.func104, Tryz.ntmps104
  go_wp2_with (fail)
  go_ret
  exact ⟨rfl, Ext.refl _⟩
theorem Open_nil (w : World) : Calls Tryz.prog 61 #[.pointer none] w (Ret (.slice none 0 0) w) := by
  go_enter Tryz.func61, Tryz.ntmps61
  go_wp2_with (fail)
  generalize hw1 : World.alloc _ _ = w1
  obtain ⟨he, o1, -⟩ := alloc1 hw1
  have b0 := obj_cells1 o1
  have E1 := Ext.refl w1
  have HE := Lib.hid he
  clear hw1 o1 he
  go_wp2_with (fail)
  go_ret
  exact ⟨rfl, HE.out⟩
set_option maxHeartbeats 2000000 in
theorem Open_any (B : Nat) (x : Bp) (pts : List Pt) (ord : List Int) (w : World) (h : BkAt w B x pts ord) (hb : InB pts.length ord) (hn : ord.length ≤ 1000000) :
    Calls Tryz.prog 61 #[bkV x] w (RetI (openL pts ord) w) := by
  obtain ⟨b0, b1⟩ := obj_cells2 h.blk
  have hcl := fun W (e : Ext w W) => clone_int x.oa x.oc ord W (h.ints.ext e) (by omega)
  have H := Lib.hid h; have HB := Lib.hid hb; have HCL := Lib.hid hcl
  obtain ⟨xo, hxo⟩ : ∃ xo, xo = x.oa := ⟨_, rfl⟩
  obtain ⟨xc, hxc⟩ : ∃ xc, xc = x.oc := ⟨_, rfl⟩
  rw [← hxo, ← hxc] at b1 HCL
  clear h hb hcl hxo hxc
  go_enter Tryz.func61, Tryz.ntmps61
  go_upto_region 3 with fail
  generalize hw1 : World.alloc _ _ = w1
  obtain ⟨he, o1, -⟩ := alloc1 hw1
  have c0 := obj_cells1 o1
  have p0 := fun W (e : Ext w1 W) => b0 W (he.trans e)
  have p1 := fun W (e : Ext w1 W) => b1 W (he.trans e)
  have E1 := Ext.refl w1
  have HE := Lib.hid he
  have HC := Lib.hid c0
  obtain ⟨bb, hbb⟩ : ∃ bb, bb = w.heap.size := ⟨_, rfl⟩
  rw [← hbb] at c0 HC ⊢
  clear hw1 o1 he b0 b1 hbb
  go_wp2_with (first | (go_at_call 82; (with_reducible refine (HCL.out _ HE.out).mono ?_); rintro e w2 ⟨a2, c2, rfl, he2, ho2⟩; have HD := Lib.hid (deleteFunc_int 104 #[.pointer (some ⟨bb, 0, none⟩)] a2 ord.length c2 w1.heap.size ord (openP pts) w1 w2 rfl (by omega) ho2 he2 (Nat.le_refl _) (fun i hi => ⟨enters104, fun W e => by obtain ⟨j, hj, hje⟩ := HB.out.at i hi; rw [hje]; exact open1_any B x pts ord j bb W (H.out.ext (HE.out.trans e)) hj (fun W' e' => HC.out W' (e.trans e'))⟩)); clear ho2) | (go_at_call 103; (with_reducible refine HD.out.mono ?_); rintro e w3 ⟨m, rfl, hm, he3, ho3⟩; have HM := Lib.hid hm; have HO3 := Lib.hid ho3; clear hm ho3 HD))
  go_ret
  have e1 : m = (openL pts ord).length := HM.out
  subst e1
  exact ⟨a2, c2, rfl, HE.out.trans he3, own_down HO3.out HE.out.size⟩
/-! ### Next, State, Done -/
theorem Next_nil (w : World) : Calls Tryz.prog 62 #[.pointer none] w (Ret (.tuple #[.int .i64 0, .bool false]) w) := by
  have ho := Open_nil w
  go_enter Tryz.func62, Tryz.ntmps62
  go_wp2_with (go_at_call 61; (with_reducible refine ho.mono ?_); rintro e w2 ⟨rfl, he2⟩)
  go_ret2
  exact ⟨rfl, he2⟩
def nextV (l : List Int) : Value := match l with | [] => .tuple #[.int .i64 0, .bool false] | i :: _ => .tuple #[.int .i64 i, .bool true]
set_option maxHeartbeats 1000000 in
theorem Next_any (B : Nat) (x : Bp) (pts : List Pt) (ord : List Int) (w : World) (h : BkAt w B x pts ord) (hb : InB pts.length ord) (hn : ord.length ≤ 1000000) :
    Calls Tryz.prog 62 #[bkV x] w (Ret (nextV (openL pts ord)) w) := by
  have HO := Lib.hid (Open_any B x pts ord w h hb hn)
  clear h hb
  cases hl : openL pts ord with
  | nil =>
    rw [hl] at HO
    go_enter Tryz.func62, Tryz.ntmps62
    go_wp2_with (go_at_call 61; (with_reducible refine HO.out.mono ?_); rintro e w2 ⟨a2, c2, rfl, he2, ho2⟩; clear ho2)
    go_ret2
    exact ⟨rfl, he2⟩
  | cons i0 ls =>
    rw [hl] at HO
    have hpos : 0 < (i0 :: ls).length := by simp
    have h0 : nth (i0 :: ls) 0 = i0 := rfl
    have HN : Hid (nextV (i0 :: ls) = .tuple #[.int .i64 i0, .bool true]) := rfl
    rw [HN.out]
    obtain ⟨m, hm⟩ : ∃ m, m = (i0 :: ls).length := ⟨_, rfl⟩
    have HI : Hid (∀ a2 c2 w2, OwnI w2 w.heap.size (.slice a2 m c2) (i0 :: ls) → ∃ b o, a2 = some ⟨b, o, none⟩ ∧ ∀ W, Ext w2 W → W.cell? ⟨b, o, none⟩ = some (.int .i64 i0)) := fun a2 c2 w2 ho => by
      obtain ⟨b, o, e1, e2⟩ := (OwnI.ints ho).1.at 0 hpos
      exact ⟨b, o, e1, fun W e => by have := e2 W e; rwa [h0, Nat.add_zero] at this⟩
    have HO2 : Hid (Calls Tryz.prog 61 #[bkV x] w (fun e w' => ∃ a c, e = .returned (.slice a m c) ∧ Ext w w' ∧ OwnI w' w.heap.size (.slice a m c) (i0 :: ls))) := by rw [hm]; exact HO.out
    rw [← hm] at hpos
    clear HO hl hm h0 HN
    go_enter Tryz.func62, Tryz.ntmps62
    go_upto_region 2 with (go_at_call 61; (with_reducible refine HO2.out.mono ?_); rintro e w2 ⟨a2, c2, rfl, he2, ho2⟩; obtain ⟨b, o, rfl, d0⟩ := HI.out _ _ _ ho2; clear ho2 HO2 HI)
    have E2 := Ext.refl w2
    go_wp2_with (fail)
    go_ret2
    exact ⟨rfl, he2⟩
theorem Done_nil (w : World) : Calls Tryz.prog 64 #[.pointer none] w (Ret (.bool false) w) := by
  go_enter Tryz.func64, Tryz.ntmps64
  go_wp2_with (fail)
  go_ret
  exact ⟨rfl, Ext.refl _⟩
set_option maxHeartbeats 1000000 in
theorem Done_any (B : Nat) (x : Bp) (pts : List Pt) (ord : List Int) (w : World) (h : BkAt w B x pts ord) (hb : InB pts.length ord) (hn : ord.length ≤ 1000000) :
    Calls Tryz.prog 64 #[bkV x] w (Ret (.bool (decide ((openL pts ord).length = 0))) w) := by
  have HO := Lib.hid (Open_any B x pts ord w h hb hn)
  clear h hb
  obtain ⟨m, hm⟩ : ∃ m, m = (openL pts ord).length := ⟨_, rfl⟩
  have HO2 : Hid (Calls Tryz.prog 61 #[bkV x] w (fun e w' => ∃ a c, e = .returned (.slice a m c) ∧ Ext w w')) := HO.out.mono (by
    rintro e w' ⟨a, c, h1, h2, -⟩
    rw [hm]
    exact ⟨a, c, h1, h2⟩)
  rw [← hm]
  clear HO hm
  go_enter Tryz.func64, Tryz.ntmps64
  go_wp2_with (go_at_call 61; (with_reducible refine HO2.out.mono ?_); rintro e w2 ⟨a2, c2, rfl, he2⟩)
  go_ret
  refine ⟨?_, he2⟩
  by_cases hm : m = 0
  · subst hm; simp
  · simp [hm]
theorem State_nil (k : Int) (w : World) : Calls Tryz.prog 63 #[.pointer none, .int .i64 k] w (Ret (.tuple #[.int .u8 0, .string ⟨#[]⟩, .int .i64 1]) w) := by
  have ho := find_nil k w
  go_enter Tryz.func63, Tryz.ntmps63
  go_wp2_with (go_at_call 96; (with_reducible refine ho.mono ?_); rintro e w2 ⟨rfl, he2⟩)
  go_ret3
  exact ⟨rfl, he2⟩
set_option maxHeartbeats 1000000 in
theorem State_no (B : Nat) (x : Bp) (pts : List Pt) (ord : List Int) (k : Int) (w : World) (h : BkAt w B x pts ord) (hk : k < 0 ∨ (pts.length : Int) ≤ k) : Calls Tryz.prog 63 #[bkV x, .int .i64 k] w (Ret (.tuple #[.int .u8 0, .string ⟨#[]⟩, .int .i64 3]) w) := by
  have ho := find_no B x pts ord k w h hk
  clear h
  go_enter Tryz.func63, Tryz.ntmps63
  go_wp2_with (go_at_call 96; (with_reducible refine ho.mono ?_); rintro e w2 ⟨rfl, he2⟩)
  go_ret3
  exact ⟨rfl, he2⟩
set_option maxHeartbeats 1000000 in
theorem State_ok (B : Nat) (x : Bp) (pts : List Pt) (ord : List Int) (k : Nat) (w : World) (h : BkAt w B x pts ord) (hk : k < pts.length) : Calls Tryz.prog 63 #[bkV x, .int .i64 (k : Int)] w (Ret (.tuple #[.int .u8 (qth pts k).st, .string (qth pts k).rs, .int .i64 0]) w) := by
  obtain ⟨gp, hgp, -, -, d0, d1, d2, d3⟩ := h.pt k hk
  have ho := Lib.hid (find_ok B x pts ord k gp w h hk hgp)
  obtain ⟨q, hq⟩ : ∃ q, q = (qth pts k).st := ⟨_, rfl⟩
  obtain ⟨r, hr⟩ : ∃ r, r = (qth pts k).rs := ⟨_, rfl⟩
  rw [← hq] at d2 ⊢
  rw [← hr] at d3 ⊢
  clear h d0 d1 hq hr hgp
  go_enter Tryz.func63, Tryz.ntmps63
  go_upto_region 4 with (go_at_call 96; (with_reducible refine ho.out.mono ?_); rintro e w2 ⟨rfl, he2⟩)
  have e2 := fun W (e : Ext w2 W) => d2 W (he2.trans e)
  have e3 := fun W (e : Ext w2 W) => d3 W (he2.trans e)
  have hr0 := Ext.refl w2
  clear d2 d3
  refine wp_region_ext (by kernel_rfl) (by kernel_rfl) hr0 ?_
  repeat (first | go_big_quiet_step (((fail))) | quiet_step (((fail))))
  refine wpQuiet_nil ?_
  rintro _ ⟨nq, rfl⟩
  have hq2 := nq.ok
  go_wp2_with (fail)
  go_ret3
  exact ⟨rfl, he2.trans hq2⟩
end Go.Proofs.YtplbofhgmflnlaaGreat
end
section
/-
  Walks: a book's Take.
-/
set_option linter.unusedVariables false
set_option linter.unusedSimpArgs false
namespace Go.Proofs.YtplbofhgmflnlaaGreat
open Go.RowKit
section
variable {α : Type} {e sz : Nat} {f : α → List Value}
theorem rowF_set (hf : ∀ x, (f x).length = sz) (v : Value) (x' : α) (j : Nat) (hj : j < sz) : ∀ (xs : List α) (i : Nat) (hi : i < xs.length), f x' = (f xs[i]).set j v → (rowF f xs).set (i * sz + j) v = rowF f (xs.set i x')
  | x :: xs, 0, _, h => by
    simp only [rowF, List.flatMap_cons, Nat.zero_mul, Nat.zero_add, List.set_cons_zero, List.getElem_cons_zero] at h ⊢
    rw [List.set_append_left _ _ (by rw [hf]; exact hj), h]
  | x :: xs, i + 1, hi, h => by
    have ih := rowF_set hf v x' j hj xs i (by simpa using hi) (by simpa using h)
    simp only [rowF, List.flatMap_cons, List.set_cons_succ] at ih ⊢
    rw [List.set_append_right _ _ (by rw [hf, Nat.add_mul]; omega), hf, ← ih]
    congr 2
    rw [Nat.add_mul]; omega
theorem OwnF.setCell1 (hf : ∀ x, (f x).length = sz) {w : World} {B g n c : Nat} {xs : List α} (h : OwnF e sz f w B (.slice (some ⟨g, 0, none⟩) n c) xs) (i : Nat) (hi : i < xs.length) (j : Nat) (hj : j < sz) (v : Value) (x' : α) (hx : f x' = (f xs[i]).set j v) :
    OwnF e sz f (w.setCell ⟨g, i * sz + j, none⟩ v) B (.slice (some ⟨g, 0, none⟩) n c) (xs.set i x') := by
  obtain ⟨h0, h1⟩ := h
  unfold OwnF
  rw [List.length_set]
  refine ⟨by rw [rowF_len hf, List.length_set], ?_⟩
  rcases h1 with ⟨hv, -⟩ | ⟨g', cap, cur, hv, hg, hh, hnc, hcm, hs, ht⟩
  · cases hv
  · simp only [Value.slice.injEq, Option.some.injEq, Addr.mk.injEq, and_true] at hv
    obtain ⟨rfl, rfl, rfl⟩ := hv
    refine .inr ⟨g, _, _, rfl, hg, block_set hh _ _, hnc, hcm, by simp [hs], ?_⟩
    rw [Array.toList_setIfInBounds, List.take_set, ht]
    exact rowF_set hf v x' j hj xs i hi hx
end
theorem BkAt.put {w : World} {B : Nat} {x : Bp} {pts : List Pt} {ord : List Int} {gp : Nat} (h : BkAt w B x pts ord) (hp : x.pa = some ⟨gp, 0, none⟩) (k : Nat) (hk : k < pts.length) (j : Nat) (hj : j < 4) (v : Value) (p : Pt) (hpt : ptC p = (ptC (qth pts k)).set j v) :
    BkAt (w.setCell ⟨gp, k * 4 + j, none⟩ v) B x (pts.set k p) ord := by
  obtain ⟨gb, pa, pc, oa, oc⟩ := x
  simp only at hp
  subst hp
  have ho := OwnF.setCell1 ptC_len h.opts k hk j hj v p (by rw [← qth_eq pts k hk]; exact hpt)
  unfold BkAt bkL at *
  rw [List.length_set]
  have hx : ExtX gp w (w.setCell ⟨gp, k * 4 + j, none⟩ v) := (ExtX.refl gp w).set _ _
  have hr : (rwP (.slice (some ⟨gp, 0, none⟩) pts.length pc) (pts.set k p)).at (w.setCell ⟨gp, k * 4 + j, none⟩ v) B := ho
  exact RowsAt.wrMid (L1 := [rwB gb (.slice (some ⟨gp, 0, none⟩) pts.length pc) (.slice oa ord.length oc)]) (L2 := [rwI (.slice oa ord.length oc) ord]) (r := rwP (.slice (some ⟨gp, 0, none⟩) pts.length pc) pts) (r' := rwP (.slice (some ⟨gp, 0, none⟩) pts.length pc) (pts.set k p)) h hx rfl rfl hr
theorem Ints.take {w : World} {a : Option Addr} {xs : List Int} (h : Ints w a xs) (p : Nat) : Ints w a (xs.take p) := by
  rcases h with rfl | ⟨b, o, h1, h2⟩
  · left; simp
  · refine .inr ⟨b, o, h1, fun i hi => ?_⟩
    rw [List.length_take] at hi
    rw [nth_take _ _ _ (by omega)]
    exact h2 i (by omega)
theorem InB.take {n : Nat} {l : List Int} (h : InB n l) (p : Nat) : InB n (l.take p) := fun y hy => h y (List.mem_of_mem_take hy)
theorem InB.drop {n : Nat} {l : List Int} (h : InB n l) (p : Nat) : InB n (l.drop p) := fun y hy => h y (List.mem_of_mem_drop hy)
/-- What Take answers. -/
def takeE (pts : List Pt) (ord : List Int) (k : Nat) : Int :=
  if (qth pts k).st != 0 then 6 else if (ord.take (qth pts k).place.toNat).any (someP pts (qth pts k).blk 0) then 61 else 0
theorem Take_nil (k : Int) (w : World) : Calls Tryz.prog 54 #[.pointer none, .int .i64 k] w (Ret (.int .i64 1) w) := by
  have ho := find_nil k w
  go_enter Tryz.func54, Tryz.ntmps54
  go_wp2_with (go_at_call 96; (with_reducible refine ho.mono ?_); rintro e w2 ⟨rfl, he2⟩)
  go_ret
  exact ⟨rfl, he2⟩
set_option maxHeartbeats 1000000 in
theorem Take_no (B : Nat) (x : Bp) (pts : List Pt) (ord : List Int) (k : Int) (w : World) (h : BkAt w B x pts ord) (hk : k < 0 ∨ (pts.length : Int) ≤ k) : Calls Tryz.prog 54 #[bkV x, .int .i64 k] w (Ret (.int .i64 3) w) := by
  have ho := find_no B x pts ord k w h hk
  clear h
  go_enter Tryz.func54, Tryz.ntmps54
  go_wp2_with (go_at_call 96; (with_reducible refine ho.mono ?_); rintro e w2 ⟨rfl, he2⟩)
  go_ret
  exact ⟨rfl, he2⟩
set_option maxHeartbeats 4000000 in
theorem Take_any (B : Nat) (x : Bp) (pts : List Pt) (ord : List Int) (k : Nat) (gp : Nat) (w : World) (h : BkAt w B x pts ord) (hk : k < pts.length) (hgp : x.pa = some ⟨gp, 0, none⟩) (hb : InB pts.length ord) (hn : ord.length ≤ 1000000) (p : Nat) (hp : (qth pts k).place = (p : Int)) (hpn : p ≤ ord.length) :
    Calls Tryz.prog 54 #[bkV x, .int .i64 (k : Int)] w (fun e w' => e = .returned (.int .i64 (takeE pts ord k)) ∧ ExtX gp w w' ∧ BkAt w' B x (if takeE pts ord k = 0 then pts.set k { qth pts k with st := 1 } else pts) ord) := by
  obtain ⟨gp', hgp', hgB, hgl, d0, d1, d2, d3⟩ := h.pt k hk
  rw [hgp] at hgp'
  cases hgp'
  have HF := Lib.hid (find_ok B x pts ord k gp w h hk hgp)
  obtain ⟨b0, b1⟩ := obj_cells2 h.blk
  have HP := Lib.hid (fun W (e : Ext w W) => (h.ext e).put (hgp) k hk 2 (by omega) (.int .u8 1) { qth pts k with st := 1 } (by rfl))
  have HFR : Hid (∀ W, Ext w W → W.frozen? ⟨gp, k * 4 + 2, none⟩ = false) := fun W e => by
    have := OwnF.there ptC_len (show OwnP W B (.slice (some ⟨gp, 0, none⟩) pts.length x.pc) pts by rw [← hgp]; exact (h.ext e).opts) k hk 2 (by omega)
    exact this.2
  have hsm := fun W (e : Ext w W) => some_any B x pts ord x.oa (ord.take p) x.oc (qth pts k).blk 0 W (h.ext e) ((h.ints.ext e).take p) (hb.take p) (by rw [List.length_take]; omega)
  rw [List.length_take, Nat.min_eq_left hpn] at hsm
  have hpc : p ≤ x.oc := by have := h.cap; omega
  rw [hp] at d1
  have HT : Hid (takeE pts ord k = if (qth pts k).st != 0 then 6 else if (ord.take p).any (someP pts (qth pts k).blk 0) then 61 else 0) := by rw [Hid]; unfold takeE; rw [hp, Int.toNat_natCast]
  rw [HT.out]
  obtain ⟨q, hq⟩ : ∃ q, q = (qth pts k).st := ⟨_, rfl⟩
  obtain ⟨bl, hbl⟩ : ∃ bl, bl = (qth pts k).blk := ⟨_, rfl⟩
  obtain ⟨S, hS⟩ : ∃ S, S = (ord.take p).any (someP pts bl 0) := ⟨_, rfl⟩
  rw [← hbl] at d0 hsm ⊢
  rw [← hS] at hsm ⊢
  rw [← hq] at d2 ⊢
  have HSM := Lib.hid hsm
  have H := Lib.hid h
  obtain ⟨oa, hoa⟩ : ∃ oa, oa = x.oa := ⟨_, rfl⟩
  obtain ⟨oc, hoc⟩ : ∃ oc, oc = x.oc := ⟨_, rfl⟩
  rw [← hoa, ← hoc] at b1 HSM
  rw [← hoc] at hpc
  obtain ⟨m, hm⟩ : ∃ m, m = ord.length := ⟨_, rfl⟩
  rw [← hm] at b1 hpn
  clear h hq hbl hS hsm HT hp d3 hoa hoc hm
  have HS2 : Hid (∀ w2, Ext w w2 → ∀ n : Later w2, Calls Tryz.prog 97 #[bkV x, .slice oa p oc, .int .i64 bl, .int .u8 0] n.val (Ret (.bool S) n.val)) := fun w2 e n => HSM.out n.val (e.trans n.ok)
  clear HSM
  cases T : (q != 0)
  · cases S
    · go_enter Tryz.func54, Tryz.ntmps54
      go_upto_region 6 with (go_at_call 96; (with_reducible refine HF.out.mono ?_); rintro e w2 ⟨rfl, he2⟩; have D2 := fun W (e : Ext w2 W) => d2 W (he2.trans e); have hr0 := Ext.refl w2)
      have B1 := fun W (e : Ext w2 W) => b1 W (he2.trans e)
      have D0 := fun W (e : Ext w2 W) => d0 W (he2.trans e)
      have D1 := fun W (e : Ext w2 W) => d1 W (he2.trans e)
      have F2 := fun W (e : Ext w2 W) => HFR.out W (he2.trans e)
      have HS3 := Lib.hid (HS2.out w2 he2)
      clear HS2 b0 b1 d0 d1 d2 HF
      refine wp_region_ext (by kernel_rfl) (by kernel_rfl) hr0 ?_
      repeat (first | go_big_quiet_step (((go_at_call 97; exact Calls.later (HS3.out _)))) | quiet_step (((go_at_call 97; exact Calls.later (HS3.out _)))))
      refine wpQuiet_nil ?_
      rintro _ ⟨nq, rfl⟩
      have hq2 := nq.ok
      go_wp2_with (fail)
      go_ret
      have e1 := he2.trans hq2
      refine ⟨by simp, e1.x.set _ _, ?_⟩
      (try simp only [Bool.false_eq_true, if_false, if_true])
      exact HP.out _ e1
    · go_enter Tryz.func54, Tryz.ntmps54
      go_upto_region 6 with (go_at_call 96; (with_reducible refine HF.out.mono ?_); rintro e w2 ⟨rfl, he2⟩; have D2 := fun W (e : Ext w2 W) => d2 W (he2.trans e); have hr0 := Ext.refl w2)
      have B1 := fun W (e : Ext w2 W) => b1 W (he2.trans e)
      have D0 := fun W (e : Ext w2 W) => d0 W (he2.trans e)
      have D1 := fun W (e : Ext w2 W) => d1 W (he2.trans e)
      have HS3 := Lib.hid (HS2.out w2 he2)
      clear HS2 b0 b1 d0 d1 d2 HF
      refine wp_region_ext (by kernel_rfl) (by kernel_rfl) hr0 ?_
      repeat (first | go_big_quiet_step (((go_at_call 97; exact Calls.later (HS3.out _)))) | quiet_step (((go_at_call 97; exact Calls.later (HS3.out _)))))
      refine wpQuiet_nil ?_
      rintro _ ⟨nq, rfl⟩
      have hq2 := nq.ok
      go_wp2_with (fail)
      go_ret
      have e1 := he2.trans hq2
      refine ⟨by simp, e1.x, ?_⟩
      (try simp only [Bool.false_eq_true, if_false, if_true])
      exact H.out.ext e1
  · go_enter Tryz.func54, Tryz.ntmps54
    go_wp2_with (go_at_call 96; (with_reducible refine HF.out.mono ?_); rintro e w2 ⟨rfl, he2⟩; have D2 := fun W (e : Ext w2 W) => d2 W (he2.trans e); have hr0 := Ext.refl w2)
    go_ret
    refine ⟨by simp, he2.x, ?_⟩
    (try simp only [if_true])
    exact H.out.ext he2
end Go.Proofs.YtplbofhgmflnlaaGreat
end
section
/-
  Walks: isReason.
-/
set_option linter.unusedVariables false
set_option linter.unusedSimpArgs false
namespace Go.Proofs.YtplbofhgmflnlaaGreat
open Go.RowKit
abbrev u8 (n : Nat) : Value := .int .u8 (n : Int)
/-- The i-th byte. -/
def bth (xs : List UInt8) (i : Nat) : Nat := (xs.getD i 0).toNat
theorem bth_lt (xs : List UInt8) (i : Nat) : bth xs i < 256 := by unfold bth; exact UInt8.toNat_lt _
theorem bth_eq (xs : List UInt8) (i : Nat) (h : i < xs.length) : bth xs i = xs[i].toNat := by simp [bth, h]
/-- Bytes as cells. -/
def rowB (xs : List UInt8) : List Value := xs.map fun b => u8 b.toNat
theorem rowB_len (xs : List UInt8) : (rowB xs).length = xs.length := by simp [rowB]
theorem rowB_get (xs : List UInt8) (i : Nat) (h : i < xs.length) : (rowB xs)[i]? = some (u8 (bth xs i)) := by simp [rowB, bth_eq _ _ h, h]
theorem rowB_one (xs : List UInt8) : ∀ u ∈ rowB xs, u.oneCell' = true := by
  intro u hu
  simp only [rowB, List.mem_map] at hu
  obtain ⟨x, _, rfl⟩ := hu
  rfl
def OwnB (w : World) (B : Nat) (v : Value) (xs : List UInt8) : Prop :=
  (v = .slice none 0 0 ∧ xs = []) ∨
  ∃ g cap cur fz, v = .slice (some ⟨g, 0, none⟩) xs.length cap ∧ B ≤ g ∧ w.heap[g]? = some (.cells cur 5 fz) ∧ xs.length ≤ cap ∧ cap ≤ maxLen ∧ cur.size = cap ∧ cur.toList.take xs.length = rowB xs ∧ (fz = (0, 0) ∨ cap ≤ fz.1)
theorem OwnB.ext {w w' : World} {B : Nat} {v : Value} {xs : List UInt8} (h : OwnB w B v xs) (e : Ext w w') : OwnB w' B v xs := by
  rcases h with h | ⟨g, cap, cur, fz, hv, hg, hh, r⟩
  · exact .inl h
  · exact .inr ⟨g, cap, cur, fz, hv, hg, e.block hh, r⟩
theorem OwnB.cell {w : World} {B g n c : Nat} {xs : List UInt8} (h : OwnB w B (.slice (some ⟨g, 0, none⟩) n c) xs) (i : Nat) (hi : i < xs.length) : w.cell? ⟨g, i, none⟩ = some (u8 (bth xs i)) := by
  rcases h with ⟨h, rfl⟩ | ⟨g', cap, cur, fz, hv, hg, hh, hnc, hcm, hs, ht, hf⟩
  · cases h
  · simp only [Value.slice.injEq, Option.some.injEq, Addr.mk.injEq] at hv
    obtain ⟨⟨rfl, _⟩, _⟩ := hv
    have h3 : (cur.toList.take xs.length)[i]? = cur.toList[i]? := by rw [List.getElem?_take]; simp [hi]
    rw [ht, rowB_get xs i hi] at h3
    simp only [World.cell?, hh, Option.isSome_none, Bool.false_eq_true, if_false]
    rw [← Array.getElem?_toList, ← h3]
/-- What '[]byte(s)' lays. -/
def bytesW (w : World) (s : ByteArray) : World := w.drew.alloc (.cells (bytesRow s (grownCap w s.size 0 5)) 5 ((bytesRow s (grownCap w s.size 0 5)).size, (bytesRow s (grownCap w s.size 0 5)).size + 1))
def bytesC (w : World) (s : ByteArray) : Nat := grownCap w s.size 0 5
@[go_sem ↓] theorem run_bytesOf (w : World) (s : ByteArray) : (convert 9 197 (.string s)).run Tryz.prog w = .ok (.slice (some ⟨w.heap.size, 0, none⟩) s.size (bytesC w s)) (bytesW w s) :=
  run_bytes_of_string w 9 197 5 s Tryz.underlying9 Tryz.underlying197 Tryz.underlying5
theorem len_data (s : ByteArray) : s.data.toList.length = s.size := by simp
theorem bytesW_facts (w : World) (s : ByteArray) (hs : s.size ≤ maxLen) : Ext w (bytesW w s) ∧ OwnB (bytesW w s) w.heap.size (.slice (some ⟨w.heap.size, 0, none⟩) s.size (bytesC w s)) s.data.toList ∧ (bytesW w s).heap.size = w.heap.size + 1 := by
  refine ⟨((Ext.refl w).drew).alloc _, ?_, heap_size w.drew _⟩
  have hge : s.size ≤ bytesC w s := grownCap_ge w s.size 0 5
  have hsz : (bytesRow s (bytesC w s)).size = bytesC w s := by
    simp only [bytesRow, Array.size_append, Array.size_map, Array.size_replicate]
    have : s.data.size = s.size := rfl
    omega
  refine .inr ⟨w.heap.size, bytesC w s, bytesRow s (bytesC w s), _, by rw [len_data], Nat.le_refl _, heap_new w.drew _, by rw [len_data]; exact hge, grownCap_le_maxLen w s.size 0 5 hs, hsz, ?_, .inr (Nat.le_of_eq hsz.symm)⟩
  unfold bytesRow rowB
  rw [Array.toList_append]
  exact (List.take_left' (by simp)).trans (by simp)
@[go_sem] theorem ext_bytesW {a w : World} (h : Ext a w) (s : ByteArray) : Ext a (bytesW w s) := (h.drew).alloc _
@[go_sem] theorem size_bytesW (w : World) (s : ByteArray) : (bytesW w s).heap.size = w.heap.size + 1 := heap_size w.drew _
/-- Whether a byte may stand at a place of a name. -/
def okChar (i c : Nat) : Bool := (decide (97 ≤ c) && decide (c ≤ 122)) || (i != 0 && (c == 95 || (decide (48 ≤ c) && decide (c ≤ 57))))
def nameCh (l : List UInt8) : Bool := (List.range l.length).all fun i => okChar i (l.getD i 0).toNat
def nameB (s : ByteArray) : Bool := nameCh s.data.toList && (s.size != 0 && decide (s.size ≤ 20))
theorem nameCh_false (l : List UInt8) (k : Nat) (hk : k < l.length) (h : okChar k (l.getD k 0).toNat = false) : nameCh l = false := by
  unfold nameCh
  rw [List.all_eq_false]
  exact ⟨k, List.mem_range.2 hk, by rw [h]; simp⟩
theorem nameCh_true (l : List UInt8) (h : ∀ k, k < l.length → okChar k (l.getD k 0).toNat = true) : nameCh l = true := by
  unfold nameCh
  rw [List.all_eq_true]
  exact fun k hk => h k (List.mem_range.1 hk)
theorem toList_loop (bs : ByteArray) : ∀ (n i : Nat) (r : List UInt8), bs.size - i = n → ByteArray.toList.loop bs i r = r.reverse ++ bs.data.toList.drop i
  | 0, i, r, h => by
    unfold ByteArray.toList.loop
    rw [if_neg (by omega), List.drop_of_length_le (by rw [len_data]; omega), List.append_nil]
  | n + 1, i, r, h => by
    unfold ByteArray.toList.loop
    rw [if_pos (by omega), toList_loop bs n (i + 1) _ (by omega)]
    have hi : i < bs.data.toList.length := by rw [len_data]; omega
    have hi2 : i < bs.data.size := by simpa using hi
    rw [List.drop_eq_getElem_cons hi, List.reverse_cons, List.append_assoc]
    congr 1
    simp [ByteArray.get!, getElem!_pos bs.data i hi2]
theorem toList_eq (s : ByteArray) : s.toList = s.data.toList := by
  unfold ByteArray.toList
  rw [toList_loop s _ 0 [] rfl]; rfl
theorem isEmpty_eq (s : ByteArray) : s.toList.isEmpty = (s.size == 0) := by
  rw [toList_eq, ← len_data s]; cases s.data.toList <;> simp
/-- An empty text, as the walk spells it. -/
theorem empty_yes {s : ByteArray} (h : (s.size == 0) = true) : s.toList = [] := by
  have := isEmpty_eq s; rw [h] at this; simpa using this
theorem empty_no {s : ByteArray} (h : (s.size == 0) = false) : ¬ s.toList = [] := by
  have := isEmpty_eq s; rw [h] at this; simpa using this
set_option maxRecDepth 100000 in
set_option maxHeartbeats 4000000 in
theorem isReason_any (s : ByteArray) (w : World) (hs : s.size ≤ maxLen) : Calls Tryz.prog 100 #[.string s] w (Ret (.bool (nameB s)) w) := by
  have hs' := hs
  unfold maxLen at hs'
  go_enter Tryz.func100, Tryz.ntmps100
  go_wp2_with (fail)
  generalize hw1 : bytesW _ _ = w1
  obtain ⟨he1, o1, -⟩ := bytesW_facts w s hs
  rw [hw1] at he1 o1
  have HO := Lib.hid o1
  have HE := Lib.hid he1
  have HL := Lib.hid (len_data s)
  clear hw1 o1 he1 hs
  go_loopw [9] (fun i wr => ∃ k : Nat, k ≤ s.size ∧ i = .int .i64 k ∧ Hid (∀ j, j < k → okChar j (s.data.toList.getD j 0).toNat = true) ∧ Ext w1 wr) (fun i _ => s.size - (intOf i).toNat)
  case atStart => exact ⟨0, Nat.zero_le _, rfl, fun j hj => by omega, Ext.refl _⟩
  case round =>
    obtain ⟨k, hk, rfl, hf, he⟩ := hrel
    by_cases hlt : k < s.size
    · have c0 := (HO.out.ext he).cell k (by rw [HL.out]; exact hlt)
      have c1 : bth s.data.toList k = (s.data.toList.getD k 0).toNat := rfl
      obtain ⟨c, hc⟩ : ∃ c, c = bth s.data.toList k := ⟨_, rfl⟩
      have hf1 : okChar k c = false → Hid (nameB s = false) := fun h => by
        have := nameCh_false s.data.toList k (by rw [HL.out]; exact hlt) (by rw [← c1, ← hc]; exact h)
        simp [Hid, nameB, this]
      have hf2 : okChar k c = true → Hid (∀ j, j < k + 1 → okChar j (s.data.toList.getD j 0).toNat = true) := fun h j hj => by
        by_cases e : j = k
        · subst e; rw [← c1, ← hc]; exact h
        · exact hf.out j (by omega)
      rw [← hc] at c0
      clear c1 hc
      have HF1 := Lib.hid hf1; have HF2 := Lib.hid hf2
      clear hf1 hf2
      cases T1 : decide (97 ≤ (c : Int)) <;> cases T2 : decide ((c : Int) ≤ 122) <;> cases T4 : ((c : Int) != 95) <;> cases T5 : decide ((c : Int) < 48) <;> cases T6 : decide (57 < (c : Int)) <;>
        first
          | (exfalso; simp at T1 T2 T4 T5 T6; omega)
          | (cases T3 : ((k : Int) == 0) <;>
              first
                | (have hq := HF2.out (by simp at T1 T2 T3 T4 T5 T6; simp [okChar]; omega)
                   clear HF1 HF2
                   go_wp2_with (fail)
                   go_roundw
                   case rel => exact ⟨k + 1, by omega, by go_num, hq, he⟩
                   case measure => simp [intOf]; omega)
                | (have hq := HF1.out (by simp at T1 T2 T3 T4 T5 T6; simp [okChar]; omega)
                   clear HF1 HF2
                   go_wp2_with (fail)
                   go_ret
                   exact ⟨by rw [hq.out]; rfl, HE.out.trans he⟩))
    · obtain rfl : k = s.size := by omega
      have hq : Hid (nameB s = (!(s.size == 0) && decide ((s.size : Int) ≤ 20))) := by
        have := nameCh_true s.data.toList (fun k hk => hf.out k (by rw [HL.out] at hk; exact hk))
        have e : decide (s.size ≤ 20) = decide ((s.size : Int) ≤ 20) := by rw [decide_eq_decide]; omega
        simp only [Hid, nameB, this, bne, e, Bool.true_and]
      cases T : (s.size == 0)
      · have t1 := empty_no T
        rw [T] at hq
        have HI := Lib.hid (isEmpty_eq s)
        rw [T] at HI
        clear T
        go_wp2_with (fail)
        go_ret
        refine ⟨?_, HE.out.trans he⟩
        rw [hq.out, ← HI.out]
        exact ret_bool (by simp [HI.out])
      · have t1 := empty_yes T
        rw [T] at hq
        clear T
        go_wp2_with (fail)
        go_ret
        exact ⟨by rw [hq.out]; rfl, HE.out.trans he⟩
end Go.Proofs.YtplbofhgmflnlaaGreat
end
section
/-
  Walks: a book's Declare and Reopen.
-/
set_option linter.unusedVariables false
set_option linter.unusedSimpArgs false
namespace Go.Proofs.YtplbofhgmflnlaaGreat
open Go.RowKit
/-- What Declare answers at a point. -/
def declE (pts : List Pt) (k : Nat) (r : ByteArray) : Int := if !nameB r then 4 else if (qth pts k).st != 0 then 6 else 0
theorem Declare_nil (k : Int) (r : ByteArray) (w : World) : Calls Tryz.prog 56 #[.pointer none, .int .i64 k, .string r] w (Ret (.int .i64 1) w) := by
  have ho := find_nil k w
  go_enter Tryz.func56, Tryz.ntmps56
  go_wp2_with (go_at_call 96; (with_reducible refine ho.mono ?_); rintro e w2 ⟨rfl, he2⟩)
  go_ret
  exact ⟨rfl, he2⟩
set_option maxHeartbeats 1000000 in
theorem Declare_no (B : Nat) (x : Bp) (pts : List Pt) (ord : List Int) (k : Int) (r : ByteArray) (w : World) (h : BkAt w B x pts ord) (hk : k < 0 ∨ (pts.length : Int) ≤ k) : Calls Tryz.prog 56 #[bkV x, .int .i64 k, .string r] w (Ret (.int .i64 3) w) := by
  have ho := find_no B x pts ord k w h hk
  clear h
  go_enter Tryz.func56, Tryz.ntmps56
  go_wp2_with (go_at_call 96; (with_reducible refine ho.mono ?_); rintro e w2 ⟨rfl, he2⟩)
  go_ret
  exact ⟨rfl, he2⟩
theorem set_set_pt (pts : List Pt) (k : Nat) (p q : Pt) : (pts.set k p).set k q = pts.set k q := List.set_set ..
theorem qth_set (pts : List Pt) (k : Nat) (p : Pt) (hk : k < pts.length) : qth (pts.set k p) k = p := by simp [qth, hk]
set_option maxHeartbeats 4000000 in
theorem Declare_any (B : Nat) (x : Bp) (pts : List Pt) (ord : List Int) (k : Nat) (gp : Nat) (r : ByteArray) (w : World) (h : BkAt w B x pts ord) (hk : k < pts.length) (hgp : x.pa = some ⟨gp, 0, none⟩) (hr : r.size ≤ maxLen) :
    Calls Tryz.prog 56 #[bkV x, .int .i64 (k : Int), .string r] w (fun e w' => e = .returned (.int .i64 (declE pts k r)) ∧ ExtX gp w w' ∧ BkAt w' B x (if declE pts k r = 0 then pts.set k { qth pts k with st := 2, rs := r } else pts) ord) := by
  obtain ⟨gp', hgp', hgB, hgl, d0, d1, d2, d3⟩ := h.pt k hk
  rw [hgp] at hgp'
  cases hgp'
  have HF := Lib.hid (find_ok B x pts ord k gp w h hk hgp)
  have HN := Lib.hid (fun W => isReason_any r W hr)
  have HP := Lib.hid (fun W (e : Ext w W) => by
    have h1 := (h.ext e).put hgp k hk 2 (by omega) (.int .u8 2) { qth pts k with st := 2 } (by rfl)
    have h2 := h1.put hgp k (by rw [List.length_set]; exact hk) 3 (by omega) (.string r) { qth pts k with st := 2, rs := r } (by rw [qth_set _ _ _ hk]; rfl)
    rw [set_set_pt] at h2
    exact h2)
  have HFR : Hid (∀ W, Ext w W → ∀ j, j < 4 → W.frozen? ⟨gp, k * 4 + j, none⟩ = false) := fun W e j hj => by
    have := OwnF.there ptC_len (show OwnP W B (.slice (some ⟨gp, 0, none⟩) pts.length x.pc) pts by rw [← hgp]; exact (h.ext e).opts) k hk j hj
    exact this.2
  have HT : Hid (declE pts k r = if !nameB r then 4 else if (qth pts k).st != 0 then 6 else 0) := rfl
  rw [HT.out]
  obtain ⟨q, hq⟩ : ∃ q, q = (qth pts k).st := ⟨_, rfl⟩
  obtain ⟨r0, hr0⟩ : ∃ r0, r0 = (qth pts k).rs := ⟨_, rfl⟩
  rw [← hq] at d2 ⊢
  rw [← hr0] at d3
  have H := Lib.hid h
  clear h hq hr0 HT hr d0 d1
  cases T : nameB r
  · rw [T] at HN
    go_enter Tryz.func56, Tryz.ntmps56
    go_wp2_with (first | (go_at_call 96; (with_reducible refine HF.out.mono ?_); rintro e w2 ⟨rfl, he2⟩) | (go_at_call 100; (with_reducible refine (HN.out _).mono ?_); rintro e w3 ⟨rfl, he3⟩))
    go_ret
    refine ⟨by simp, (he2.trans he3).x, ?_⟩
    (try simp only [Bool.not_false, if_true])
    exact H.out.ext (he2.trans he3)
  · rw [T] at HN
    cases T2 : (q != 0)
    · go_enter Tryz.func56, Tryz.ntmps56
      go_wp2_with (first | (go_at_call 96; (with_reducible refine HF.out.mono ?_); rintro e w2 ⟨rfl, he2⟩) | (go_at_call 100; (with_reducible refine (HN.out _).mono ?_); rintro e w3 ⟨rfl, he3⟩; have D2 := fun W (e : Ext w3 W) => d2 W ((he2.trans he3).trans e); have D3 := fun W (e : Ext w3 W) => d3 W ((he2.trans he3).trans e); have F2 := fun W (e : Ext w3 W) => HFR.out W ((he2.trans he3).trans e) 2 (by omega); have F3 := fun W (e : Ext w3 W) => HFR.out W ((he2.trans he3).trans e) 3 (by omega); have E3 := Ext.refl w3; clear d2 d3 HFR))
      go_ret
      refine ⟨by simp, ((he2.trans he3).x.set _ _).set _ _, ?_⟩
      (try simp only [Bool.not_true, Bool.false_eq_true, if_false, if_true])
      exact HP.out _ (he2.trans he3)
    · go_enter Tryz.func56, Tryz.ntmps56
      go_wp2_with (first | (go_at_call 96; (with_reducible refine HF.out.mono ?_); rintro e w2 ⟨rfl, he2⟩) | (go_at_call 100; (with_reducible refine (HN.out _).mono ?_); rintro e w3 ⟨rfl, he3⟩; have D2 := fun W (e : Ext w3 W) => d2 W ((he2.trans he3).trans e); have E3 := Ext.refl w3; clear d2 d3 HFR))
      go_ret
      refine ⟨by simp, (he2.trans he3).x, ?_⟩
      (try simp only [Bool.not_true, Bool.false_eq_true, if_false, if_true])
      exact H.out.ext (he2.trans he3)
/-- What Reopen answers at a point. -/
def reopE (pts : List Pt) (ord : List Int) (k : Nat) : Int :=
  if (qth pts k).st != 2 then 7 else if (ord.drop ((qth pts k).place.toNat + 1)).any (someP pts (qth pts k).blk 1) then 9 else 0
theorem Reopen_nil (k : Int) (w : World) : Calls Tryz.prog 58 #[.pointer none, .int .i64 k] w (Ret (.int .i64 1) w) := by
  have ho := find_nil k w
  go_enter Tryz.func58, Tryz.ntmps58
  go_wp2_with (go_at_call 96; (with_reducible refine ho.mono ?_); rintro e w2 ⟨rfl, he2⟩)
  go_ret
  exact ⟨rfl, he2⟩
set_option maxHeartbeats 1000000 in
theorem Reopen_no (B : Nat) (x : Bp) (pts : List Pt) (ord : List Int) (k : Int) (w : World) (h : BkAt w B x pts ord) (hk : k < 0 ∨ (pts.length : Int) ≤ k) : Calls Tryz.prog 58 #[bkV x, .int .i64 k] w (Ret (.int .i64 3) w) := by
  have ho := find_no B x pts ord k w h hk
  clear h
  go_enter Tryz.func58, Tryz.ntmps58
  go_wp2_with (go_at_call 96; (with_reducible refine ho.mono ?_); rintro e w2 ⟨rfl, he2⟩)
  go_ret
  exact ⟨rfl, he2⟩
theorem OwnI.drop {w : World} {B g n c : Nat} {xs : List Int} (hn : xs.length = n) (h : OwnI w B (.slice (some ⟨g, 0, none⟩) n c) xs) (p : Nat) : Ints w (some ⟨g, p, none⟩) (xs.drop p) := by
  refine .inr ⟨g, p, rfl, fun i hi => ?_⟩
  rw [List.length_drop] at hi
  rw [ownI_cell hn h (p + i) (by omega), nth_eq _ _ (by omega), nth_eq _ _ (by rw [List.length_drop]; omega)]
  simp
set_option maxHeartbeats 4000000 in
theorem Reopen_any (B : Nat) (x : Bp) (pts : List Pt) (ord : List Int) (k : Nat) (gp : Nat) (w : World) (h : BkAt w B x pts ord) (hk : k < pts.length) (hgp : x.pa = some ⟨gp, 0, none⟩) (hb : InB pts.length ord) (hn : ord.length ≤ 1000000) (p : Nat) (hp : (qth pts k).place = (p : Int)) (hpn : p < ord.length) :
    Calls Tryz.prog 58 #[bkV x, .int .i64 (k : Int)] w (fun e w' => e = .returned (.int .i64 (reopE pts ord k)) ∧ ExtX gp w w' ∧ BkAt w' B x (if reopE pts ord k = 0 then pts.set k { qth pts k with st := 0, rs := ⟨#[]⟩ } else pts) ord) := by
  obtain ⟨gp', hgp', hgB, hgl, d0, d1, d2, d3⟩ := h.pt k hk
  rw [hgp] at hgp'
  cases hgp'
  have HF := Lib.hid (find_ok B x pts ord k gp w h hk hgp)
  obtain ⟨b0, b1⟩ := obj_cells2 h.blk
  have HP := Lib.hid (fun W (e : Ext w W) => by
    have h1 := (h.ext e).put hgp k hk 2 (by omega) (.int .u8 0) { qth pts k with st := 0 } (by rfl)
    have h2 := h1.put hgp k (by rw [List.length_set]; exact hk) 3 (by omega) (.string ⟨#[]⟩) { qth pts k with st := 0, rs := ⟨#[]⟩ } (by rw [qth_set _ _ _ hk]; rfl)
    rw [set_set_pt] at h2
    exact h2)
  have HFR : Hid (∀ W, Ext w W → ∀ j, j < 4 → W.frozen? ⟨gp, k * 4 + j, none⟩ = false) := fun W e j hj => by
    have := OwnF.there ptC_len (show OwnP W B (.slice (some ⟨gp, 0, none⟩) pts.length x.pc) pts by rw [← hgp]; exact (h.ext e).opts) k hk j hj
    exact this.2
  obtain ⟨og, oc', hoa', -, -⟩ := full_row (r := rwI (.slice x.oa ord.length x.oc) ord) h.oord (by show ord.length ≠ 0; omega)
  have hoa : x.oa = some ⟨og, 0, none⟩ := by
    have : Value.slice x.oa ord.length x.oc = .slice (some ⟨og, 0, none⟩) ord.length oc' := hoa'
    simp only [Value.slice.injEq] at this; exact this.1
  have hid := fun W (e : Ext w W) => show Ints W (if x.oc = p + 1 then some ⟨og, 0, none⟩ else some ⟨og, p + 1, none⟩) (ord.drop (p + 1)) by
    split
    · rename_i he
      have := h.cap
      left
      rw [List.drop_eq_nil_iff]; omega
    · exact OwnI.drop rfl (show OwnI W B (.slice (some ⟨og, 0, none⟩) ord.length x.oc) ord by rw [← hoa]; exact (h.ext e).oord) (p + 1)
  have hsm := fun W (e : Ext w W) => some_any B x pts ord (if x.oc = p + 1 then some ⟨og, 0, none⟩ else some ⟨og, p + 1, none⟩) (ord.drop (p + 1)) (x.oc - (p + 1)) (qth pts k).blk 1 W (h.ext e) (hid W e) (hb.drop (p + 1)) (by rw [List.length_drop]; omega)
  rw [List.length_drop] at hsm
  have hpc : p + 1 ≤ x.oc := by have := h.cap; omega
  have hpm : ord.length ≤ x.oc := h.cap
  rw [hp] at d1
  have HT : Hid (reopE pts ord k = if (qth pts k).st != 2 then 7 else if (ord.drop (p + 1)).any (someP pts (qth pts k).blk 1) then 9 else 0) := by rw [Hid]; unfold reopE; rw [hp, Int.toNat_natCast]
  rw [HT.out]
  obtain ⟨q, hq⟩ : ∃ q, q = (qth pts k).st := ⟨_, rfl⟩
  obtain ⟨bl, hbl⟩ : ∃ bl, bl = (qth pts k).blk := ⟨_, rfl⟩
  obtain ⟨r0, hr0⟩ : ∃ r0, r0 = (qth pts k).rs := ⟨_, rfl⟩
  obtain ⟨S, hS⟩ : ∃ S, S = (ord.drop (p + 1)).any (someP pts bl 1) := ⟨_, rfl⟩
  rw [← hbl] at d0 hsm ⊢
  rw [← hS] at hsm ⊢
  rw [← hq] at d2 ⊢
  rw [← hr0] at d3
  have HSM := Lib.hid hsm
  have H := Lib.hid h
  obtain ⟨oc, hoc⟩ : ∃ oc, oc = x.oc := ⟨_, rfl⟩
  rw [hoa, ← hoc] at b1
  rw [← hoc] at hpc hpm HSM
  obtain ⟨m, hm⟩ : ∃ m, m = ord.length := ⟨_, rfl⟩
  rw [← hm] at b1 hpn HSM hpm
  have HS2 : Hid (∀ w2, Ext w w2 → ∀ n : Later w2, Calls Tryz.prog 97 #[bkV x, .slice (if oc = p + 1 then some ⟨og, 0, none⟩ else some ⟨og, p + 1, none⟩) (m - (p + 1)) (oc - (p + 1)), .int .i64 bl, .int .u8 1] n.val (Ret (.bool S) n.val)) := fun w2 e n => HSM.out n.val (e.trans n.ok)
  have hp1 : (0 : Int) ≤ (p : Int) := by omega
  have hpb : (p : Int) ≤ 1000000 := by omega
  have hpi : (p : Int) + 1 ≤ (m : Int) := by omega
  clear h hq hbl hS hsm HT hp hoa hoc hm hoa' hr0 HSM hid
  cases T : (q != 2)
  · cases S
    · go_enter Tryz.func58, Tryz.ntmps58
      go_upto_region 6 with (go_at_call 96; (with_reducible refine HF.out.mono ?_); rintro e w2 ⟨rfl, he2⟩; have D2 := fun W (e : Ext w2 W) => d2 W (he2.trans e); have hr0 := Ext.refl w2)
      have B1 := fun W (e : Ext w2 W) => b1 W (he2.trans e)
      have D0 := fun W (e : Ext w2 W) => d0 W (he2.trans e)
      have D1 := fun W (e : Ext w2 W) => d1 W (he2.trans e)
      have D3 := fun W (e : Ext w2 W) => d3 W (he2.trans e)
      have F2 := fun W (e : Ext w2 W) => HFR.out W (he2.trans e) 2 (by omega)
      have F3 := fun W (e : Ext w2 W) => HFR.out W (he2.trans e) 3 (by omega)
      have HS3 := Lib.hid (HS2.out w2 he2)
      clear HS2 b0 b1 d0 d1 d2 d3 HF
      refine wp_region_ext (by kernel_rfl) (by kernel_rfl) hr0 ?_
      repeat (first | go_big_quiet_step (((go_at_call 97; exact Calls.later (HS3.out _)))) | quiet_step (((go_at_call 97; exact Calls.later (HS3.out _)))))
      refine wpQuiet_nil ?_
      rintro _ ⟨nq, rfl⟩
      have hq2 := nq.ok
      clear HS3
      generalize (if oc = p + 1 then some (⟨og, 0, none⟩ : Addr) else some ⟨og, p + 1, none⟩) = AD
      go_wp2_with (fail)
      go_ret
      have e1 := he2.trans hq2
      refine ⟨by simp, (e1.x.set _ _).set _ _, ?_⟩
      (try simp only [Bool.false_eq_true, if_false, if_true])
      exact HP.out _ e1
    · go_enter Tryz.func58, Tryz.ntmps58
      go_upto_region 6 with (go_at_call 96; (with_reducible refine HF.out.mono ?_); rintro e w2 ⟨rfl, he2⟩; have D2 := fun W (e : Ext w2 W) => d2 W (he2.trans e); have hr0 := Ext.refl w2)
      have B1 := fun W (e : Ext w2 W) => b1 W (he2.trans e)
      have D0 := fun W (e : Ext w2 W) => d0 W (he2.trans e)
      have D1 := fun W (e : Ext w2 W) => d1 W (he2.trans e)
      have HS3 := Lib.hid (HS2.out w2 he2)
      clear HS2 b0 b1 d0 d1 d2 HF
      refine wp_region_ext (by kernel_rfl) (by kernel_rfl) hr0 ?_
      repeat (first | go_big_quiet_step (((go_at_call 97; exact Calls.later (HS3.out _)))) | quiet_step (((go_at_call 97; exact Calls.later (HS3.out _)))))
      refine wpQuiet_nil ?_
      rintro _ ⟨nq, rfl⟩
      have hq2 := nq.ok
      clear HS3
      generalize (if oc = p + 1 then some (⟨og, 0, none⟩ : Addr) else some ⟨og, p + 1, none⟩) = AD
      go_wp2_with (fail)
      go_ret
      have e1 := he2.trans hq2
      refine ⟨by simp, e1.x, ?_⟩
      (try simp only [Bool.false_eq_true, if_false, if_true])
      exact H.out.ext e1
  · go_enter Tryz.func58, Tryz.ntmps58
    go_wp2_with (go_at_call 96; (with_reducible refine HF.out.mono ?_); rintro e w2 ⟨rfl, he2⟩; have D2 := fun W (e : Ext w2 W) => d2 W (he2.trans e); have hr0 := Ext.refl w2)
    go_ret
    refine ⟨by simp, he2.x, ?_⟩
    (try simp only [if_true])
    exact H.out.ext he2
end Go.Proofs.YtplbofhgmflnlaaGreat
end
