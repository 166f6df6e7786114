/-
  Texts merged: A10, A11, A12, A13.
-/
import Derived.Test.YtjpgignbjkgjiaaA9
import Derived.Test.YtjpgignbjkgjiaaB3
import Derived.Test.YtjpgignbjkgjiaaB4
section
set_option linter.unusedVariables false
set_option linter.unusedSimpArgs false
namespace Go.Proofs.Ytjpgignbjkgjiaa
open Go.RowKit
theorem ints_none {w : World} {xs : List Int} (h : Ints w none xs) : xs = [] := by
  rcases h with h | ⟨b, o, h1, _⟩
  · exact h
  · cases h1
theorem grown_ext {w w1 w' : World} {v : Value} (he : Ext w w1) (hg : w1.grownBy w' v.ownBlock) (hb : ∀ k, v.ownBlock = some k → w.heap.size ≤ k) : Ext w w' := Below.grown he hg he.size hb
theorem own_block {w : World} {B : Nat} {v : Value} {xs : List Int} (h : OwnI w B v xs) : ∀ k, v.ownBlock = some k → B ≤ k := fun k hk => (h.lt k hk).1
theorem own_slice {w : World} {B : Nat} {v : Value} {xs : List Int} (h : OwnI w B v xs) : ∃ a n c, v = .slice a n c := by
  rcases h.2 with ⟨h, _⟩ | ⟨g, cap, cur, h, _⟩
  · exact ⟨_, _, _, h⟩
  · exact ⟨_, _, _, h⟩
set_option maxHeartbeats 400000 in
theorem clone_int (a : Option Addr) (c : Nat) (xs : List Int) (w : World) (hx : Ints w a xs) (hn : xs.length ≤ 1000000) :
    Calls Try.prog 55 #[.slice a xs.length c] w (RetI xs w) := by
  have hnil := fun (W : World) (a : Option Addr) (n c : Nat) => Lib.run_eql_slice_nil (P := Try.prog) W 22 3 a n c 0 0 Try.underlying22
  cases a with
  | none =>
    obtain rfl := ints_none hx
    have HN := Lib.hid hn; clear hn
    go_enter Try.func55, Try.ntmps55
    go_wp2_with (fail)
    go_ret
    exact ⟨none, 0, rfl, Ext.refl w, by exact World.ownsRow_nil _ _ _ _⟩
  | some ad =>
    have happ := app_ints (w.alloc (.cells #[] 3)) w.heap.size 22 _ [] xs (some ad) c (own_empty w 3 1) (hx.ext ((Ext.refl w).alloc _)) (by simp; omega) (by simp)
    have HA := Lib.hid happ
    clear hx hn happ
    go_enter Try.func55, Try.ntmps55
    go_wp2_with (at_builtin; refine wpList_app _ rfl _ _ 22 rfl _ HA.out ?_; rintro v' w' ⟨hv, hg⟩)
    obtain ⟨a', n', c', rfl⟩ := own_slice hv
    obtain ⟨-, hn', -⟩ := hv.ints
    go_ret
    refine ⟨a', c', by rw [hn']; rfl, grown_ext ((Ext.refl w).alloc _) hg (by simp [Value.ownBlock]), ?_⟩
    rw [hn'] at hv
    exact hv
end Go.Proofs.Ytjpgignbjkgjiaa
end
section
set_option linter.unusedVariables false
set_option linter.unusedSimpArgs false
namespace Go.Proofs.Ytjpgignbjkgjiaa
open Go.RowKit
theorem camps_one {w : World} {b : Nat} {c : Camp} {fz : Nat × Nat} (h : w.heap[b]? = some (.cells #[.int .i64 c.cu, .int .i64 c.pr, .int .i64 c.ho, .int .i64 c.en, .int .i64 c.ea, .int .i64 c.la, .int .i64 c.we] 45 fz)) : Camps w (some ⟨b, 0, none⟩) [c] := by
  obtain ⟨c0, c1, c2, c3, c4, c5, c6⟩ := obj_cells7 h
  refine .inr ⟨b, 0, rfl, fun i hi => ?_⟩
  obtain rfl : i = 0 := by simp at hi; omega
  have e := Ext.refl w
  exact ⟨c0 w e, c1 w e, c2 w e, c3 w e, c4 w e, c5 w e, c6 w e⟩
theorem ints_one {w : World} {b : Nat} {x : Int} {fz : Nat × Nat} (h : w.heap[b]? = some (.cells #[.int .i64 x] 3 fz)) : Ints w (some ⟨b, 0, none⟩) [x] := by
  have c0 := obj_cells1 h
  refine .inr ⟨b, 0, rfl, fun i hi => ?_⟩
  obtain rfl : i = 0 := by simp at hi; omega
  exact c0 w (Ext.refl w)
theorem own_nil_i (w : World) (B : Nat) : OwnI w B (.slice none 0 0) [] := World.ownsRow_nil _ _ _ _
set_option maxHeartbeats 1000000 in
theorem starts_any (ha : Hal) (x : HP) (c : Camp) (now : Int) (l : List Camp) (w : World) (hh : HallAt w ha x) (hv : VH ha l) (hc : CB ha.st.length c) (h0 : 0 ≤ now) (h1 : now ≤ 1000) :
    Calls Try.prog 53 #[hval ha x, cval c, .int .i64 now] w (RetI (startsS ha c now) w) := by
  have hsi : ∀ W la lc t pa pc, Ext w W → Camps W la [c] → Ints W pa [t] → Calls Try.prog 59 #[hval ha x, .slice la 1 lc, .slice pa 1 pc] W (Ret (.agg #[.int .u8 (singleS ha [c] [t]).ru, .int .i64 (singleS ha [c] [t]).a, .int .i64 (singleS ha [c] [t]).b, .int .i64 (singleS ha [c] [t]).ho]) W) :=
    fun W la lc t pa pc h q1 q2 => single_any ha x [c] la lc [t] pa 1 pc W (hh.ext h) q1 q2 (by simp) rfl (hv.one hc)
  have HSI := Lib.hid hsi; clear hsi
  obtain ⟨sa, sc, ea, ec⟩ := x
  have hn := hv.n2
  clear hv hh
  have HC := Lib.hid hc
  obtain ⟨-, -, q1, q2, q3, q4, -, -, q5, q6, q7, -, -⟩ := hc
  obtain ⟨mx, hmx, hmx0, hmx1⟩ : ∃ mx : Int, starts0 c now = mx + c.pr ∧ 0 ≤ mx ∧ mx ≤ 1000 := ⟨_, rfl, by split <;> omega, by split <;> omega⟩
  obtain ⟨t0, ht0⟩ : ∃ t0, t0 = mx + c.pr := ⟨_, rfl⟩
  obtain ⟨ht1, ht2⟩ : 0 ≤ t0 ∧ t0 ≤ 2000 := by omega
  obtain ⟨m, hm⟩ : ∃ m : Nat, m = (c.la - c.ho - t0 + 1).toNat := ⟨_, rfl⟩
  have hm1 : ∀ d : Nat, d ≤ m → (t0 + d ≤ c.la - c.ho ↔ d < m) := fun d hd => by omega
  have hm2 : m ≤ 1000 := by omega
  have HM1 := Lib.hid hm1
  have HR : Hid (startsS ha c now = startsTo ha c t0 m) := by rw [Hid, startsS, hmx, ← ht0, ← hm]
  have HT := Lib.hid ht0
  have HMX : Hid ((c.ea < now ∧ mx = now) ∨ (¬ c.ea < now ∧ mx = c.ea)) := by
    by_cases h : c.ea < now
    · left; refine ⟨h, ?_⟩; rw [starts0, if_pos h] at hmx; omega
    · right; refine ⟨h, ?_⟩; rw [starts0, if_neg h] at hmx; omega
  clear hmx ht0 hm hm1
  rcases HMX.out with ⟨hgt, hme⟩ | ⟨hgt, hme⟩
  all_goals
    subst hme
    clear HMX
    go_enter Try.func53, Try.ntmps53
    go_wp2_with (fail)
    rw [← HT.out]
    generalize hw1 : World.alloc _ _ = w1
    obtain ⟨he, o1, o2, -⟩ := alloc2 hw1
    obtain ⟨b0, b1, b2, b3⟩ := obj_cells4 o1
    obtain ⟨a0, a1, a2, a3, a4, a5, a6⟩ := obj_cells7 o2
    clear hw1 o1 o2
    go_loopw [7, 8] (fun v t wr => ∃ d : Nat, d ≤ m ∧ t = .int .i64 (t0 + d) ∧ Ext w1 wr ∧ OwnI wr w1.heap.size v (startsTo ha c t0 d)) (fun _ t _ => (t0 + m - intOf t).toNat)
    case atStart => exact ⟨0, Nat.zero_le _, by simp, Ext.refl _, own_nil_i _ _⟩
    case round =>
      obtain ⟨d, hd, rfl, hr, hown⟩ := hrel
      have hdm := HM1.out d hd
      by_cases hlt : d < m
      · have hle := hdm.2 hlt
        clear hdm
        go_wp2_with (fail)
        generalize hw2 : World.alloc _ _ = w2
        obtain ⟨he2, o1, o2, -⟩ := alloc2 hw2
        have hcs := camps_one o1
        have his := ints_one o2
        clear hw2 o1 o2
        have hr2 := hr.trans he2
        have hown2 := hown.ext he2
        (with_reducible refine (HSI.out _ _ 1 (t0 + (d : Nat)) _ 1 (he.trans hr2) hcs his).mono ?_); rintro e w3 ⟨rfl, he3⟩
        have hr3 := hr2.trans he3
        have hown3 := hown2.ext he3
        clear hcs his hown2 hown
        have T0 : okAt ha c (t0 + (d : Nat)) = ((singleS ha [c] [t0 + (d : Nat)]).ru == 0) := rfl
        have hst : startsTo ha c t0 (d + 1) = if okAt ha c (t0 + d) then startsTo ha c t0 d ++ [t0 + (d : Nat)] else startsTo ha c t0 d := rfl
        cases T1 : okAt ha c (t0 + (d : Nat))
        · rw [T1] at T0 hst
          have T2 := T0.symm
          have HST := Lib.hid hst
          clear T0 T1 hst
          go_wp2_with (fail)
          go_roundw
          case rel => exact ⟨d + 1, by omega, by go_num, hr3, by rw [HST.out]; exact hown3⟩
          case measure => simp [intOf]; omega
        · rw [T1] at T0 hst
          have T2 := T0.symm
          have HST := Lib.hid hst
          clear T0 T1 hst
          have happ := app_ints (w3.alloc (.cells #[.int .i64 (t0 + (d : Nat))] 3)) w1.heap.size 22 _ _ [t0 + (d : Nat)] (some ⟨w3.heap.size, 0, none⟩) 1 (hown3.ext ((Ext.refl w3).alloc _)) (ints_one (heap_new _ _))
            (by have := startsTo_len ha c t0 d; simp; omega) (by have := hr3.size; rw [heap_size]; omega)
          have HA := Lib.hid happ
          have hblk := own_block hown3
          clear hown3 happ
          go_wp2_with (at_builtin; refine wpList_app _ rfl _ _ 22 rfl _ HA.out ?_; rintro v' w' ⟨hv, hg⟩; replace hg := grown_ext (hr3.alloc _) hg hblk; clear HA)
          go_roundw
          case rel => exact ⟨d + 1, by omega, by go_num, hg, by rw [HST.out]; exact hv⟩
          case measure => simp [intOf]; omega
      · obtain rfl : d = m := by omega
        have hle : c.la - c.ho < t0 + d := by omega
        clear hdm
        go_wp2_with (fail)
        obtain ⟨a', n', c', rfl⟩ := own_slice hown
        obtain ⟨-, hn', -⟩ := hown.ints
        go_ret
        rw [← HR.out] at hown hn'
        refine ⟨a', c', by rw [hn']; rfl, he.trans hr, ?_⟩
        rw [hn'] at hown
        exact own_down hown he.size
end Go.Proofs.Ytjpgignbjkgjiaa
end
section
set_option linter.unusedVariables false
set_option linter.unusedSimpArgs false
namespace Go.Proofs.Ytjpgignbjkgjiaa
open Go.RowKit
set_option maxHeartbeats 400000 in
theorem isEmpty_any (a : Option Addr) (n c : Nat) (w : World) : Calls Try.prog 81 #[.slice a n c] w (Ret (.bool ((n : Int) == 0)) w) := by
  go_enter Try.func81, Try.ntmps81
  go_wp2_with (fail)
  go_ret
  exact ⟨rfl, Ext.refl _⟩
theorem enters81 : Enters Try.prog 81 := Enters.mk Try.func81 rfl rfl
theorem sth_fun (ss : List SL) (i : Nat) (h : i < ss.length) : sth ss i = ss[i] := sth_eq ss i h
set_option maxHeartbeats 400000 in
theorem indexFunc_sl (f : Nat) (cap : Array Value) (X : Nat) (a : Option Addr) (n c : Nat) (xs : List SL) (p : SL → Bool) (w : World) (hn : xs.length = n) (hm : n ≤ 1000000) (hx : SLsX X w a xs)
    (hp : ∀ i, i < n → Asks Try.prog f cap w (.slice (sth xs i).a (sth xs i).xs.length (sth xs i).c) (p (sth xs i))) :
    Calls Try.prog 88 #[.slice a n c, .func (.func f) #[] cap] w (Ret (.int .i64 (idxOr (xs.findIdx? p))) w) := by
  have HN := Lib.hid hn; clear hn
  go_enter Try.func88, Try.ntmps88
  go_wp2_with (fail)
  go_loopw [5, 8] (fun _ i wr => ∃ k : Nat, k ≤ n ∧ i = .int .i64 k ∧ Ext w wr ∧ Hid (∀ j, j < k → p (sth xs j) = false)) (fun _ i _ => n - (intOf i).toNat)
  case atStart => exact ⟨0, Nat.zero_le _, rfl, Ext.refl _, fun j hj => by omega⟩
  case round =>
    obtain ⟨k, hk, rfl, he, hf⟩ := hrel
    by_cases hlt : k < n
    · obtain ⟨b, o, rfl, c0⟩ := hx.at k (by rw [HN.out]; exact hlt)
      obtain ⟨hen, hq⟩ := hp k hlt
      have HQ := Lib.hid (hq wr he)
      have hen' := hen (#[.slice (sth xs k).a (sth xs k).xs.length (sth xs k).c] ++ cap) wr
      clear hq hen hp
      go_wp2_with (fail)
      refine HQ.out.mono ?_
      rintro e w' ⟨rfl, he'⟩
      have he2 := he.trans he'
      cases hpk : p (sth xs k)
      · have hf2 := Lib.hid (all_lt_succ hf.out hpk)
        clear hpk
        go_wp2_with (fail)
        go_roundw
        case rel => exact ⟨k + 1, by omega, by go_num, he2, hf2⟩
        case measure => simp [intOf]; omega
      · have H2 := Lib.hid (findIdx_some sth sth_fun p xs k (by rw [HN.out]; exact hlt) hpk hf.out)
        clear hpk
        go_wp2_with (fail)
        go_ret
        exact ⟨by rw [H2.out]; rfl, he2⟩
    · have H2 := Lib.hid (findIdx_none sth sth_fun p xs (fun j hj => hf.out j (by rw [HN.out] at hj; omega)))
      go_wp2_with (fail)
      go_ret
      exact ⟨by rw [H2.out]; rfl, he⟩
def lsts (ss : List SL) : List (List Int) := ss.map SL.xs
theorem lsts_len (ss : List SL) : (lsts ss).length = ss.length := by simp [lsts]
theorem lth_lsts (ss : List SL) (i : Nat) (h : i < ss.length) : lth (lsts ss) i = (sth ss i).xs := by simp [lth, lsts, sth, h]
set_option maxHeartbeats 400000 in
theorem contains81 (X : Nat) (a : Option Addr) (c : Nat) (ss : List SL) (w : World) (hm : ss.length ≤ 1000000) (hx : SLsX X w a ss) :
    Calls Try.prog 82 #[.slice a ss.length c, .func (.func 81) #[] #[]] w (Ret (.bool (anyEmpty (lsts ss))) w) := by
  have e : anyEmpty (lsts ss) = ss.any fun s => isNone0 s.xs := by simp [anyEmpty, lsts, List.any_map]; rfl
  have h0 := indexFunc_sl 81 #[] X a ss.length c ss (fun s => isNone0 s.xs) w rfl hm hx fun i hi => ⟨enters81, fun w' _ => by
    have := isEmpty_any (sth ss i).a (sth ss i).xs.length (sth ss i).c w'
    have e2 : (((sth ss i).xs.length : Int) == 0) = isNone0 (sth ss i).xs := by rw [Bool.eq_iff_iff]; simp [isNone0]
    rw [e2] at this
    exact this⟩
  have H := Lib.hid h0; clear h0
  rw [e, any_idx]
  clear e
  go_enter Try.func82, Try.ntmps82
  go_wp2_with (go_at_call 88; refine H.out.mono ?_; rintro e w' ⟨rfl, he⟩)
  go_ret
  exact ⟨rfl, he⟩
set_option maxHeartbeats 400000 in
theorem clone_sl (X : Nat) (a : Option Addr) (c : Nat) (ss : List SL) (w : World) (hx : SLsX X w a ss) (hn : ss.length ≤ 1000) (h0 : 0 < ss.length) :
    Calls Try.prog 84 #[.slice a ss.length c] w (fun e w' => ∃ g c', e = .returned (.slice (some ⟨g, 0, none⟩) ss.length c') ∧ Ext w w' ∧ w.heap.size ≤ g ∧ w'.ownsRow w.heap.size 22 1 (.slice (some ⟨g, 0, none⟩) ss.length c') ss.length (rowS ss)) := by
  have hnil := fun (W : World) (a : Option Addr) (n c : Nat) => Lib.run_eql_slice_nil (P := Try.prog) W 62 22 a n c 0 0 Try.underlying62
  obtain ⟨b, o, rfl, -⟩ := hx.at 0 h0
  have happ := app_sls (w.alloc (.cells #[] 22)) w.heap.size 62 _ [] ss (some ⟨b, o, none⟩) c (own_empty w 22 1) (hx.ext ((Ext.refl w).alloc _)).src (by simp; omega) (by simp)
  have HA := Lib.hid happ
  clear hx hn happ
  go_enter Try.func84, Try.ntmps84
  go_wp2_with (at_builtin; refine wpList_app _ rfl _ _ 62 rfl _ HA.out ?_; rintro v' w' ⟨hv, hg⟩)
  rw [List.nil_append] at hv
  rcases hv.2 with ⟨rfl, h⟩ | ⟨g, cap, cur, rfl, hb, _⟩
  · omega
  · go_ret
    exact ⟨g, cap, rfl, grown_ext ((Ext.refl w).alloc _) hg (by simp [Value.ownBlock]), hb, hv⟩
end Go.Proofs.Ytjpgignbjkgjiaa
end
section
set_option linter.unusedVariables false
set_option linter.unusedSimpArgs false
namespace Go.Proofs.Ytjpgignbjkgjiaa
open Go.RowKit
set_option maxHeartbeats 1000000 in
theorem least_any (X : Nat) (bs : Nat) (l : List Camp) (la : Option Addr) (lc : Nat) (a : Option Addr) (n c : Nat) (ss : List SL) (w : World) (hb : ∀ W, Ext w W → W.cell? ⟨bs, 4, none⟩ = some (.slice la l.length lc))
    (hl : Camps w la l) (hx : SLsX X w a ss) (hn : ss.length = n) (hln : l.length = n) (hl16 : l.length ≤ 16) (m : Int) (hc : ∀ i, i < l.length → CB m (cth l i)) (h0 : ∀ i, i < l.length → 0 < (sth ss i).xs.length)
    (ht : ∀ i, i < l.length → 0 ≤ nth (lth (lsts ss) i) 0 ∧ nth (lth (lsts ss) i) 0 ≤ 96) :
    Calls Try.prog 83 #[.pointer (some ⟨bs, 0, none⟩), .slice a n c] w (Ret (.int .i64 (leastTo l (lsts ss) l.length)) w) := by
  have HCB := Lib.hid hc; have HT := Lib.hid ht; have H0 := Lib.hid h0; clear hc ht h0
  have HN := Lib.hid hn; have HLN := Lib.hid hln
  have hle : l.length ≤ n := by omega
  clear hn hln
  have hr := Ext.refl w
  go_enter Try.func83, Try.ntmps83
  go_wp2_with (fail)
  clear hr
  go_loopw [5, 13] (fun s i wr => ∃ k : Nat, k ≤ l.length ∧ i = .int .i64 k ∧ s = .int .i64 (leastTo l (lsts ss) k) ∧ Ext w wr) (fun _ i _ => l.length - (intOf i).toNat)
  case atStart => exact ⟨0, Nat.zero_le _, rfl, rfl, Ext.refl _⟩
  case round =>
    obtain ⟨k, hk, rfl, rfl, hr⟩ := hrel
    by_cases hlt : k < l.length
    · obtain ⟨b, o, rfl, c0, c1, c2, c3, c4, c5, c6⟩ := hl.at k hlt
      have hks : k < ss.length := by rw [HN.out]; omega
      obtain ⟨b', o', rfl, d0⟩ := hx.at k hks
      have hi0 := H0.out k hlt
      have hii := (hx.2 k hks).ints
      have hlth := lth_lsts ss k hks
      obtain ⟨⟨sa, sxs, sc⟩, hs⟩ : ∃ s, s = sth ss k := ⟨_, rfl⟩
      rw [← hs] at d0 hi0 hii hlth
      dsimp only at d0 hi0 hii hlth
      obtain ⟨b2, o2, rfl, f0⟩ := hii.at 0 hi0
      have HLT := Lib.hid hlth
      clear hii hlth hs
      rw [Nat.add_zero] at f0
      have hkn : k < n := by omega
      go_wp2_with (fail)
      generalize hw2 : World.alloc _ _ = w2
      obtain ⟨he2, o1, -⟩ := alloc1 hw2
      obtain ⟨a0, a1, a2, a3, a4, a5, a6⟩ := obj_cells7 o1
      clear hw2 o1 c0 c1 c2 c3 c4 c5 c6 a0 a1 a3 a4 a5
      have hr2 := hr.trans he2
      have hr0 := Ext.refl w2
      replace d0 := fun W (h : Ext w2 W) => d0 W (hr2.trans h)
      replace f0 := fun W (h : Ext w2 W) => f0 W (hr2.trans h)
      refine wp_region_ext (by kernel_rfl) (by kernel_rfl) hr0 ?_
      repeat (quiet_step (fail))
      refine wpQuiet_nil ?_
      rintro _ ⟨nq, rfl⟩
      have e1 : IntKind.i64.wrap (leastTo l (lsts ss) k + IntKind.i64.wrap ((cth l k).we * IntKind.i64.wrap (nth sxs 0 + (cth l k).ho))) = leastTo l (lsts ss) (k + 1) := by
        have q1 := we_bd (HCB.out k hlt) (HT.out k hlt).1 (HT.out k hlt).2
        have q2 := leastTo_bd HCB.out HT.out k hk
        have q3 := (HCB.out k hlt).ho0; have q4 := (HCB.out k hlt).ho1
        have q5 := HT.out k hlt
        simp only [leastTo]
        rw [HLT.out] at q1 q5 ⊢
        rw [IntWalk.i64_in (nth sxs 0 + (cth l k).ho) (by omega), IntWalk.i64_in ((cth l k).we * (nth sxs 0 + (cth l k).ho)) (by omega), IntWalk.i64_in _ (by omega)]
      rw [e1]
      clear e1
      have hr3 := hr2.trans nq.ok
      go_wp2_with (fail)
      go_roundw
      case rel => exact ⟨k + 1, by omega, by go_num, rfl, hr3⟩
      case measure => simp [intOf]; omega
    · obtain rfl : k = l.length := by omega
      go_wp2_with (fail)
      go_ret
      exact ⟨rfl, hr⟩
end Go.Proofs.Ytjpgignbjkgjiaa
end
