import Derived.Test.YtjpgignbjkgjiaaA10
set_option linter.unusedVariables false
set_option linter.unusedSimpArgs false
namespace Go.Proofs.Ytjpgignbjkgjiaa
open Go.RowKit
theorem camps_one {w : World} {b : Nat} {c : Camp} {fz : Nat × Nat} (h : w.heap[b]? = some (.cells #[.int .i64 c.cu, .int .i64 c.pr, .int .i64 c.ho, .int .i64 c.en, .int .i64 c.ea, .int .i64 c.la, .int .i64 c.we] 45 fz)) : Camps w (some ⟨b, 0, none⟩) [c] := by
  obtain ⟨c0, c1, c2, c3, c4, c5, c6⟩ := obj_cells7 h
  refine .inr ⟨b, 0, rfl, fun i hi => ?_⟩
  obtain rfl : i = 0 := by simp at hi; omega
  have e := Ext.refl w
  exact ⟨c0 w e, c1 w e, c2 w e, c3 w e, c4 w e, c5 w e, c6 w e⟩
theorem ints_one {w : World} {b : Nat} {x : Int} {fz : Nat × Nat} (h : w.heap[b]? = some (.cells #[.int .i64 x] 3 fz)) : Ints w (some ⟨b, 0, none⟩) [x] := by
  have c0 := obj_cells1 h
  refine .inr ⟨b, 0, rfl, fun i hi => ?_⟩
  obtain rfl : i = 0 := by simp at hi; omega
  exact c0 w (Ext.refl w)
theorem own_nil_i (w : World) (B : Nat) : OwnI w B (.slice none 0 0) [] := World.ownsRow_nil _ _ _ _
set_option maxHeartbeats 1000000 in
theorem starts_any (ha : Hal) (x : HP) (c : Camp) (now : Int) (l : List Camp) (w : World) (hh : HallAt w ha x) (hv : VH ha l) (hc : CB ha.st.length c) (h0 : 0 ≤ now) (h1 : now ≤ 1000) :
    Calls Try.prog 53 #[hval ha x, cval c, .int .i64 now] w (RetI (startsS ha c now) w) := by
  have hsi : ∀ W la lc t pa pc, Ext w W → Camps W la [c] → Ints W pa [t] → Calls Try.prog 59 #[hval ha x, .slice la 1 lc, .slice pa 1 pc] W (Ret (.agg #[.int .u8 (singleS ha [c] [t]).ru, .int .i64 (singleS ha [c] [t]).a, .int .i64 (singleS ha [c] [t]).b, .int .i64 (singleS ha [c] [t]).ho]) W) :=
    fun W la lc t pa pc h q1 q2 => single_any ha x [c] la lc [t] pa 1 pc W (hh.ext h) q1 q2 (by simp) rfl (hv.one hc)
  have HSI := Lib.hid hsi; clear hsi
  obtain ⟨sa, sc, ea, ec⟩ := x
  have hn := hv.n2
  clear hv hh
  have HC := Lib.hid hc
  obtain ⟨-, -, q1, q2, q3, q4, -, -, q5, q6, q7, -, -⟩ := hc
  obtain ⟨mx, hmx, hmx0, hmx1⟩ : ∃ mx : Int, starts0 c now = mx + c.pr ∧ 0 ≤ mx ∧ mx ≤ 1000 := ⟨_, rfl, by split <;> omega, by split <;> omega⟩
  obtain ⟨t0, ht0⟩ : ∃ t0, t0 = mx + c.pr := ⟨_, rfl⟩
  obtain ⟨ht1, ht2⟩ : 0 ≤ t0 ∧ t0 ≤ 2000 := by omega
  obtain ⟨m, hm⟩ : ∃ m : Nat, m = (c.la - c.ho - t0 + 1).toNat := ⟨_, rfl⟩
  have hm1 : ∀ d : Nat, d ≤ m → (t0 + d ≤ c.la - c.ho ↔ d < m) := fun d hd => by omega
  have hm2 : m ≤ 1000 := by omega
  have HM1 := Lib.hid hm1
  have HR : Hid (startsS ha c now = startsTo ha c t0 m) := by rw [Hid, startsS, hmx, ← ht0, ← hm]
  have HT := Lib.hid ht0
  have HMX : Hid ((c.ea < now ∧ mx = now) ∨ (¬ c.ea < now ∧ mx = c.ea)) := by
    by_cases h : c.ea < now
    · left; refine ⟨h, ?_⟩; rw [starts0, if_pos h] at hmx; omega
    · right; refine ⟨h, ?_⟩; rw [starts0, if_neg h] at hmx; omega
  clear hmx ht0 hm hm1
  rcases HMX.out with ⟨hgt, hme⟩ | ⟨hgt, hme⟩
  all_goals
    subst hme
    clear HMX
    go_enter Try.func53, Try.ntmps53
    go_wp2_with (fail)
    rw [← HT.out]
    generalize hw1 : World.alloc _ _ = w1
    obtain ⟨he, o1, o2, -⟩ := alloc2 hw1
    obtain ⟨b0, b1, b2, b3⟩ := obj_cells4 o1
    obtain ⟨a0, a1, a2, a3, a4, a5, a6⟩ := obj_cells7 o2
    clear hw1 o1 o2
    go_loopw [7, 8] (fun v t wr => ∃ d : Nat, d ≤ m ∧ t = .int .i64 (t0 + d) ∧ Ext w1 wr ∧ OwnI wr w1.heap.size v (startsTo ha c t0 d)) (fun _ t _ => (t0 + m - intOf t).toNat)
    case atStart => exact ⟨0, Nat.zero_le _, by simp, Ext.refl _, own_nil_i _ _⟩
    case round =>
      obtain ⟨d, hd, rfl, hr, hown⟩ := hrel
      have hdm := HM1.out d hd
      by_cases hlt : d < m
      · have hle := hdm.2 hlt
        clear hdm
        go_wp2_with (fail)
        generalize hw2 : World.alloc _ _ = w2
        obtain ⟨he2, o1, o2, -⟩ := alloc2 hw2
        have hcs := camps_one o1
        have his := ints_one o2
        clear hw2 o1 o2
        have hr2 := hr.trans he2
        have hown2 := hown.ext he2
        (with_reducible refine (HSI.out _ _ 1 (t0 + (d : Nat)) _ 1 (he.trans hr2) hcs his).mono ?_); rintro e w3 ⟨rfl, he3⟩
        have hr3 := hr2.trans he3
        have hown3 := hown2.ext he3
        clear hcs his hown2 hown
        have T0 : okAt ha c (t0 + (d : Nat)) = ((singleS ha [c] [t0 + (d : Nat)]).ru == 0) := rfl
        have hst : startsTo ha c t0 (d + 1) = if okAt ha c (t0 + d) then startsTo ha c t0 d ++ [t0 + (d : Nat)] else startsTo ha c t0 d := rfl
        cases T1 : okAt ha c (t0 + (d : Nat))
        · rw [T1] at T0 hst
          have T2 := T0.symm
          have HST := Lib.hid hst
          clear T0 T1 hst
          go_wp2_with (fail)
          go_roundw
          case rel => exact ⟨d + 1, by omega, by go_num, hr3, by rw [HST.out]; exact hown3⟩
          case measure => simp [intOf]; omega
        · rw [T1] at T0 hst
          have T2 := T0.symm
          have HST := Lib.hid hst
          clear T0 T1 hst
          have happ := app_ints (w3.alloc (.cells #[.int .i64 (t0 + (d : Nat))] 3)) w1.heap.size 22 _ _ [t0 + (d : Nat)] (some ⟨w3.heap.size, 0, none⟩) 1 (hown3.ext ((Ext.refl w3).alloc _)) (ints_one (heap_new _ _))
            (by have := startsTo_len ha c t0 d; simp; omega) (by have := hr3.size; rw [heap_size]; omega)
          have HA := Lib.hid happ
          have hblk := own_block hown3
          clear hown3 happ
          go_wp2_with (at_builtin; refine wpList_app _ rfl _ _ 22 rfl _ HA.out ?_; rintro v' w' ⟨hv, hg⟩; replace hg := grown_ext (hr3.alloc _) hg hblk; clear HA)
          go_roundw
          case rel => exact ⟨d + 1, by omega, by go_num, hg, by rw [HST.out]; exact hv⟩
          case measure => simp [intOf]; omega
      · obtain rfl : d = m := by omega
        have hle : c.la - c.ho < t0 + d := by omega
        clear hdm
        go_wp2_with (fail)
        obtain ⟨a', n', c', rfl⟩ := own_slice hown
        obtain ⟨-, hn', -⟩ := hown.ints
        go_ret
        rw [← HR.out] at hown hn'
        refine ⟨a', c', by rw [hn']; rfl, he.trans hr, ?_⟩
        rw [hn'] at hown
        exact own_down hown he.size
end Go.Proofs.Ytjpgignbjkgjiaa
