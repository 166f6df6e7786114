/-
  Walks: IndexFunc, ContainsFunc, DeleteFunc at []int.
-/
import Derived.Test.YtplbofhgmflnlaaGreatM21
import Derived.Lib.SliceRun
set_option linter.unusedVariables false
set_option linter.unusedSimpArgs false
namespace Go.Proofs.YtplbofhgmflnlaaGreat
open Go.RowKit
theorem filter_take_succ (q : Int → Bool) (xs : List Int) (j : Nat) (h : j < xs.length) : (xs.take (j + 1)).filter q = if q (nth xs j) then (xs.take j).filter q ++ [nth xs j] else (xs.take j).filter q := by
  rw [List.take_succ_eq_append_getElem h, List.filter_append, nth_eq _ _ h]
  simp only [List.filter_cons, List.filter_nil]
  split <;> simp
theorem filter_len_le (q : Int → Bool) (xs : List Int) (j : Nat) (h : j ≤ xs.length) : ((xs.take j).filter q).length ≤ j := by
  have := List.length_filter_le q (xs.take j)
  rw [List.length_take] at this
  omega
theorem nth_snoc (ys : List Int) (v : Int) (i : Nat) : nth (ys ++ [v]) i = if i = ys.length then v else nth ys i := by
  unfold nth
  by_cases h : i = ys.length
  · simp [h]
  · rw [if_neg h]
    rcases Nat.lt_or_ge i ys.length with h1 | h1
    · simp [List.getElem?_append_left h1]
    · simp [List.getElem?_eq_none (show (ys ++ [v]).length ≤ i by simp; omega), List.getElem?_eq_none h1]
theorem nth_take (xs : List Int) (i q : Nat) (h : q < i) : nth (xs.take i) q = nth xs q := by simp [nth, List.getElem?_take, h]
theorem fl_nth (xs : List Int) : fl xs.length (nth xs) = xs := ext_nth _ _ (fl_len _ _) fun i hi => by rw [fl_len] at hi; rw [nth_fl _ _ _ hi]
theorem ownI_take {w : World} {B g n c : Nat} {F : Nat → Int} (i : Nat) (hi : i ≤ n) (h : OwnI w B (.slice (some ⟨g, 0, none⟩) n c) (fl n F)) : OwnI w B (.slice (some ⟨g, 0, none⟩) i c) (fl i F) := by
  unfold OwnI at *
  rw [fl_len] at *
  obtain ⟨h1, h2⟩ := h
  refine ⟨by rw [rowI_len, fl_len]; omega, ?_⟩
  rcases h2 with ⟨h2, _⟩ | ⟨g', cap, cur, hv, hg, hh, hnc, hcm, hs, ht⟩
  · simp at h2
  · simp only [Value.slice.injEq, Option.some.injEq, Addr.mk.injEq, and_true, true_and] at hv
    obtain ⟨rfl, rfl⟩ := hv
    refine .inr ⟨g, c, cur, rfl, hg, hh, by omega, hcm, hs, ?_⟩
    have e : rowI (fl i F) = (rowI (fl n F)).take i := by
      simp only [rowI, fl, ← List.map_take]
      rw [List.take_range, Nat.min_eq_left hi]
    rw [e, ← ht, List.take_take]
    congr 1
    omega
theorem ownI_clear {B g n c : Nat} : ∀ (m o : Nat) (w : World) (F : Nat → Int), OwnI w B (.slice (some ⟨g, 0, none⟩) n c) (fl n F) → ∃ G, OwnI (w.setCells g o (List.replicate m (.int .i64 0))) B (.slice (some ⟨g, 0, none⟩) n c) (fl n G) ∧ ∀ q, q < o → G q = F q
  | 0, o, w, F, h => ⟨F, h, fun _ _ => rfl⟩
  | m + 1, o, w, F, h => by
    obtain ⟨G, h1, h2⟩ := ownI_clear m (o + 1) (w.setCell ⟨g, o, none⟩ (.int .i64 0)) _ (ownI_set (j := o) h 0)
    exact ⟨G, h1, fun q hq => by rw [h2 q (by omega), if_neg (by omega)]⟩
theorem ext_setCells {w0 : World} {g : Nat} (hg : w0.heap.size ≤ g) : ∀ (vs : List Value) (o : Nat) (w : World), Ext w0 w → Ext w0 (w.setCells g o vs)
  | [], _, _, h => h
  | v :: vs, o, w, h => ext_setCells hg vs (o + 1) _ (h.set (by exact hg) v)
set_option maxHeartbeats 1000000 in
theorem deleteFunc_int (f : Nat) (cap : Array Value) (a : Option Addr) (n c B : Nat) (xs : List Int) (p : Int → Bool) (w0 w : World) (hn : xs.length = n) (hm : n ≤ 1000000) (hx : OwnI w B (.slice a n c) xs) (h0 : Ext w0 w) (hB : w0.heap.size ≤ B)
    (hp : ∀ i, i < n → Asks Tryz.prog f cap w0 (.int .i64 (nth xs i)) (p (nth xs i))) :
    Calls Tryz.prog 103 #[.slice a n c, .func (.func f) #[] cap] w (fun e w' => ∃ m, e = .returned (.slice a m c) ∧ m = (xs.filter fun x => !p x).length ∧ Ext w0 w' ∧ OwnI w' B (.slice a m c) (xs.filter fun x => !p x)) := by
  obtain ⟨hin, -, hnc⟩ := hx.ints
  have hidx := indexFunc_int f cap a n c xs p w hn hm hin fun i hi => ⟨(hp i hi).1, fun W hW => (hp i hi).2 W (h0.trans hW)⟩
  have HI := Lib.hid hidx
  have HP := Lib.hid hp
  clear hp hidx
  cases hf : xs.findIdx? p with
  | none =>
    have hall : xs.filter (fun x => !p x) = xs := by
      rw [List.filter_eq_self]
      intro y hy
      rw [List.findIdx?_eq_none_iff] at hf
      simp [hf y hy]
    have HA := Lib.hid hall
    rw [hf] at HI
    have HX := Lib.hid hx
    have HN := Lib.hid hn
    clear hall hf hx hn hin
    simp only [idxOr] at HI
    go_enter Tryz.func103, Tryz.ntmps103
    go_wp2_with (go_at_call 131; (with_reducible refine HI.out.mono ?_); rintro e w2 ⟨rfl, he2⟩)
    go_ret
    exact ⟨n, rfl, by rw [HA.out, HN.out], h0.trans he2, by rw [HA.out]; exact HX.out.ext he2⟩
  | some i0 =>
    rw [List.findIdx?_eq_some_iff_getElem] at hf
    obtain ⟨hi0, hp0, hfst⟩ := hf
    have hf2 : xs.findIdx? p = some i0 := by rw [List.findIdx?_eq_some_iff_getElem]; exact ⟨hi0, hp0, hfst⟩
    rw [hf2] at HI
    simp only [idxOr] at HI
    have hi0n : i0 < n := by omega
    have hpre : (xs.take (i0 + 1)).filter (fun x => !p x) = xs.take i0 := by
      rw [filter_take_succ _ _ _ hi0, nth_eq _ _ hi0, hp0]
      simp only [Bool.not_true, Bool.false_eq_true, if_false]
      rw [List.filter_eq_self]
      intro y hy
      obtain ⟨j, hj, rfl⟩ := List.getElem_of_mem hy
      simp only [List.length_take] at hj
      simp only [List.getElem_take]
      simpa using hfst j (by omega)
    rcases hx.2 with ⟨hv, hz⟩ | ⟨g, cap', cur, hv, hg, hh, hnc', hcm, hs, ht⟩
    · simp only [Value.slice.injEq] at hv; omega
    · simp only [Value.slice.injEq] at hv
      obtain ⟨rfl, -, rfl⟩ := hv
      have hx0 : OwnI w B (.slice (some ⟨g, 0, none⟩) n c) (fl n (nth xs)) := by
        have := fl_nth xs
        rw [hn] at this
        rw [this]; exact hx
      have hgB : B ≤ g := hg
      have hX0 := Lib.hid hx0
      have HN := Lib.hid hn
      have HPR := Lib.hid hpre
      clear hx0 hx hn hin hf2 hfst hp0 hpre hh hcm hs ht hnc' hg hi0
      have hne : ((i0 : Int) == -1) = false := by rw [beq_eq_false_iff_ne]; omega
      go_enter Tryz.func103, Tryz.ntmps103
      go_wp2_with (go_at_call 131; (with_reducible refine HI.out.mono ?_); rintro e w2 ⟨rfl, he2⟩)
      have h2 := h0.trans he2
      have hX2 := Lib.hid (hX0.out.ext he2)
      clear he2 hne
      go_loopw [5, 6] (fun v5 v6 wr => ∃ (i j : Nat) (F : Nat → Int), i < j ∧ j ≤ n ∧ v5 = .int .i64 i ∧ v6 = .int .i64 j ∧ Ext w0 wr ∧ OwnI wr B (.slice (some ⟨g, 0, none⟩) n c) (fl n F) ∧
        Hid (((xs.take j).filter fun x => !p x).length = i ∧ (∀ q, q < i → F q = nth ((xs.take j).filter fun x => !p x) q) ∧ (∀ q, j ≤ q → q < n → F q = nth xs q))) (fun _ v6 _ => n - (intOf v6).toNat)
      case atStart =>
        refine ⟨i0, i0 + 1, nth xs, by omega, by omega, rfl, by go_num, h2, hX2.out, ?_, fun q hq => ?_, fun q _ _ => rfl⟩
        · rw [HPR.out, List.length_take]; have := HN.out; omega
        · rw [HPR.out, nth_take _ _ _ hq]
      case round =>
        obtain ⟨i, j, F, hij, hj, rfl, rfl, hr, hown, hq⟩ := hrel
        by_cases hlt : j < n
        · have hcell := ownI_cell (fl_len _ _) hown j hlt
          rw [nth_fl _ _ _ hlt, hq.out.2.2 j (Nat.le_refl _) hlt] at hcell
          obtain ⟨hen, hcl⟩ := HP.out j hlt
          have HQ := Lib.hid (hcl wr hr)
          have hen' := hen (#[.int .i64 (nth xs j)] ++ cap) wr
          clear hen hcl
          have HO := Lib.hid hown
          clear hown
          go_wp2_with (fail)
          refine HQ.out.mono ?_
          rintro e w3 ⟨rfl, he3⟩
          clear HQ hen' hcell
          have hr3 := hr.trans he3
          have hown3 := HO.out.ext he3
          have hstep := filter_take_succ (fun x => !p x) xs j (by rw [HN.out]; exact hlt)
          cases hpk : p (nth xs j)
          · rw [hpk] at hstep
            simp only [Bool.not_false, if_true] at hstep
            have hfr := ownI_free (fl_len _ _) hown3 i
            have hc0 := ownI_cell (fl_len _ _) hown3 i (by omega)
            have hown4 := ownI_set (j := i) hown3 (nth xs j)
            have hr4 := hr3.set (p := ⟨g, i, none⟩) (by simp; omega) (.int .i64 (nth xs j))
            have HH : Hid (((xs.take (j + 1)).filter fun x => !p x).length = i + 1 ∧ (∀ q, q < i + 1 → (if q = i then nth xs j else F q) = nth ((xs.take (j + 1)).filter fun x => !p x) q) ∧ (∀ q, j + 1 ≤ q → q < n → (if q = i then nth xs j else F q) = nth xs q)) := by
              obtain ⟨q1, q2, q3⟩ := hq.out
              rw [hstep]
              refine ⟨by simp [q1], fun q hqi => ?_, fun q hq1 hq2 => ?_⟩
              · rw [nth_snoc, q1]
                by_cases h : q = i
                · rw [if_pos h, if_pos h]
                · rw [if_neg h, if_neg h]; exact q2 q (by omega)
              · rw [if_neg (by omega)]; exact q3 q (by omega) hq2
            have HO4 := Lib.hid hown4
            clear hown4 hown3 hq hstep HO hpk
            have hin2 : i < n := by omega
            go_wp2_with (fail)
            go_roundw
            case rel => exact ⟨i + 1, j + 1, _, by omega, by omega, by go_num, by go_num, hr4, HO4.out, HH⟩
            case measure => simp [intOf]; omega
          · rw [hpk] at hstep
            simp only [Bool.not_true, Bool.false_eq_true, if_false] at hstep
            have HH : Hid (((xs.take (j + 1)).filter fun x => !p x).length = i ∧ (∀ q, q < i → F q = nth ((xs.take (j + 1)).filter fun x => !p x) q) ∧ (∀ q, j + 1 ≤ q → q < n → F q = nth xs q)) := by
              obtain ⟨q1, q2, q3⟩ := hq.out
              rw [hstep]
              exact ⟨q1, q2, fun q hq1 hq2 => q3 q (by omega) hq2⟩
            have HO4 := Lib.hid hown3
            clear hown3 hq hstep HO hpk
            go_wp2_with (fail)
            go_roundw
            case rel => exact ⟨i, j + 1, F, by omega, by omega, rfl, by go_num, hr3, HO4.out, HH⟩
            case measure => simp [intOf]; omega
        · obtain rfl : j = n := by omega
          have hic : ¬ c = i := by omega
          have hcl := Lib.run_clear_slice (P := Tryz.prog) wr 31 3 0 (.int .i64 0) Tryz.underlying31 (fun w => by kernel_rfl) rfl rfl g i (j - i) (c - i) (by omega) (fun q hq => by rw [ownI_cell (fl_len _ _) hown (i + q) (by omega)]; rfl) (fun q _ => ownI_free (fl_len _ _) hown (i + q))
          obtain ⟨G, hG1, hG2⟩ := ownI_clear (j - i) i wr F hown
          have hr5 := ext_setCells (w0 := w0) (g := g) (by omega) (List.replicate (j - i) (.int .i64 0)) i wr hr
          have HG := Lib.hid hG1
          have hin2 : i ≤ j := by omega
          clear hown hG1
          go_wp2_with (fail)
          go_ret
          obtain ⟨q1, q2, -⟩ := hq.out
          rw [List.take_of_length_le (by rw [HN.out]; exact Nat.le_refl _)] at q1 q2
          refine ⟨i, rfl, q1.symm, hr5, ?_⟩
          have hO := ownI_take i hin2 HG.out
          have he : fl i G = xs.filter fun x => !p x := ext_nth _ _ (by rw [fl_len, q1]) fun q hq => by
            rw [fl_len] at hq
            rw [nth_fl _ _ _ hq, hG2 q hq, q2 q hq]
          rw [he] at hO
          exact hO
end Go.Proofs.YtplbofhgmflnlaaGreat
