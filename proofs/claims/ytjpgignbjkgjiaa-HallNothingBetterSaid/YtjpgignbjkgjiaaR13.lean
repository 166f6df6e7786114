import Derived.Test.YtjpgignbjkgjiaaR12
set_option linter.unusedVariables false
set_option linter.unusedSimpArgs false
namespace Go.Proofs.Ytjpgignbjkgjiaa
open Go.RowKit
abbrev crval (c : Cr) : Value := .agg #[.int .i64 c.fr, .int .i64 c.to, .int .i64 c.ne, .int .i64 c.hv]
theorem in_split (c : Camp) (a b : Int) : inB c a b = (decide (a ≤ c.ea + c.pr) && decide (c.la ≤ b)) := rfl
def crE (ha : Hal) (l : List Camp) : Int := if campsB ha l then 0 else 2
def crR (ha : Hal) (l : List Camp) : Cr := if campsB ha l then crowdR ha l else Cr.zero
def crB (ha : Hal) (l : List Camp) : Bool := if campsB ha l then crowdB ha l else false
set_option maxRecDepth 100000 in
set_option maxHeartbeats 4000000 in
theorem Crowded_any (ha : Hal) (x : HP) (l : List Camp) (la : Option Addr) (lc : Nat) (w : World) (hh : HallAt w ha x) (hl : Camps w la l) :
    Calls Try.prog 33 #[hval ha x, .slice la l.length lc] w (Ret (.tuple #[crval (crR ha l), .bool (crB ha l), .int .i64 (crE ha l)]) w) := by
  have hchk := fun W (h : Ext w W) => checkCampaigns ha x l la lc W (hh.ext h) (hl.ext h)
  have HC := Lib.hid hchk
  clear hchk
  obtain ⟨sa, sc, ea, ec⟩ := x
  have HH := Lib.hid hh
  clear hh
  cases T1 : campsB ha l
  · have HB : Hid (crR ha l = Cr.zero ∧ crB ha l = false ∧ crE ha l = 2) := by simp [Hid, crR, crB, crE, T1]
    rw [T1] at HC
    simp only [errIf] at HC
    go_enter Try.func33, Try.ntmps33
    go_wp2_with (fail)
    generalize hw1 : World.alloc _ _ = w1
    obtain ⟨he, o1, o2, -⟩ := alloc2 hw1
    obtain ⟨b0, b1, b2, b3⟩ := obj_cells4 o1
    obtain ⟨r0, r1, r2, r3⟩ := obj_cells4 o2
    have rf := obj_free o2
    clear hw1 o1 o2
    (with_reducible refine (HC.out _ he).mono ?_); rintro e w2 ⟨rfl, he2⟩
    have rf0 := rf w2 he2
    go_wp2_with (fail)
    refine bodyPost_ret (v := .tuple #[crval (crR ha l), .bool (crB ha l), .int .i64 (crE ha l)]) (by rw [HB.out.1, HB.out.2.1, HB.out.2.2]; simp [results, Try.results33, go_sem, r0 _ he2, r1 _ he2, r2 _ he2, r3 _ he2, Cr.zero]) rfl ⟨rfl, ?_⟩
    exact ((((he.trans he2).set (by simp) _).set (by simp) _).set (by simp) _).set (by simp) _
  · have HB : Hid (crR ha l = crowdR ha l ∧ crB ha l = crowdB ha l ∧ crE ha l = 0) := by simp [Hid, crR, crB, crE, T1]
    rw [T1] at HC
    simp only [errIf] at HC
    have HV := Lib.hid (campsB_vh T1)
    have hl16 := HV.out.ll
    have hn96 := HV.out.n2
    clear T1
    go_enter Try.func33, Try.ntmps33
    go_wp2_with (fail)
    generalize hw1 : World.alloc _ _ = w1
    obtain ⟨he, o1, o2, -⟩ := alloc2 hw1
    obtain ⟨b0, b1, b2, b3⟩ := obj_cells4 o1
    obtain ⟨r0, r1, r2, r3⟩ := obj_cells4 o2
    have rf := obj_free o2
    clear hw1 o1 o2
    have HST := Lib.hid (HH.out.st.ext he)
    have HL := Lib.hid (hl.ext he)
    clear hl
    (with_reducible refine (HC.out _ he).mono ?_); rintro e w2 ⟨rfl, he2⟩
    go_wp2_with (fail)
    go_loopw [21] (fun i wr => ∃ a : Nat, a ≤ ha.st.length ∧ i = .int .i64 a ∧ Ext w1 wr ∧ Hid (∀ j, j < a → (crowdIn ha l j).isSome = false)) (fun i _ => ha.st.length - (intOf i).toNat)
    case atStart => exact ⟨0, Nat.zero_le _, rfl, he2, fun j hj => by omega⟩
    case round =>
      clear he2
      obtain ⟨a, hk, rfl, hr, hg⟩ := hrel
      by_cases hlt : a < ha.st.length
      · obtain ⟨wo, rfl⟩ : ∃ wo : World, wo = wr := ⟨_, rfl⟩
        go_wp2_with (fail)
        go_loopw [8, 9] (fun hv b wr => ∃ e : Nat, a ≤ e ∧ e ≤ ha.st.length ∧ b = .int .i64 ((e : Int) + 1) ∧ hv = .int .i64 (haveTo ha a (e - a)) ∧ Ext w1 wr ∧ Hid (∀ j, a ≤ j → j < e → crowdQ ha l a j = false)) (fun _ b _ => ha.st.length + 1 - (intOf b).toNat)
        case atStart => exact ⟨a, Nat.le_refl _, by omega, by simp, by rw [Nat.sub_self]; rfl, hr, fun j hj hj2 => by omega⟩
        case round =>
          clear hr
          obtain ⟨e, hae, hen, rfl, rfl, hr, hf⟩ := hrel
          have hhb := haveTo_bd ha a (e - a)
          obtain ⟨hhb1, hhb2⟩ := hhb
          by_cases hlte : e < ha.st.length
          · have hhs : haveTo ha a (e + 1 - a) = haveTo ha a (e - a) + if nth ha.st e = 0 then 0 else 1 := by
              rw [show e + 1 - a = (e - a) + 1 by omega]
              simp only [haveTo]
              rw [show a + (e - a) = e by omega]
            have HHS := Lib.hid hhs
            obtain ⟨b', o', rfl, s0⟩ := HST.out.at e hlte
            have hst := HV.out.st e hlte
            obtain ⟨hst1, hst2⟩ := hst
            have hle1 : (e : Int) + 1 ≤ ha.st.length := by omega
            have hei : ((e : Int) + 1 - 1) = e := by omega
            clear hhs
            obtain ⟨x, hx, hxb⟩ : ∃ x : Int, haveTo ha a (e - a) + x = haveTo ha a (e + 1 - a) ∧ ((nth ha.st e ≤ 1 ∧ x = nth ha.st e) ∨ (1 < nth ha.st e ∧ x = 1)) := by
              rw [HHS.out]
              by_cases h : nth ha.st e ≤ 1
              · exact ⟨nth ha.st e, by split <;> omega, .inl ⟨h, rfl⟩⟩
              · exact ⟨1, by rw [if_neg (by omega)], .inr ⟨by omega, rfl⟩⟩
            have HXX := Lib.hid hx
            have hhb3 := haveTo_bd ha a (e + 1 - a)
            obtain ⟨hhb3, hhb4⟩ := hhb3
            clear hx
            have hq0 := hr
            rcases hxb with ⟨hx1, rfl⟩ | ⟨hx1, rfl⟩
            all_goals
              obtain ⟨wo2, rfl⟩ : ∃ wo : World, wo = wr := ⟨_, rfl⟩
              go_wp2_with (fail)
              rw [HXX.out]
              go_loopw [10, 44] (fun nd i wr => ∃ k : Nat, k ≤ l.length ∧ i = .int .i64 k ∧ nd = .int .i64 (needTo l a ((e : Int) + 1) k) ∧ Ext w1 wr) (fun _ i _ => l.length - (intOf i).toNat)
              case atStart => exact ⟨0, Nat.zero_le _, rfl, rfl, hr⟩
              case round =>
                clear hr
                obtain ⟨k, hk, rfl, rfl, hr⟩ := hrel
                have hnb := needTo_bd HV.out.cb a ((e : Int) + 1) k hk
                obtain ⟨hnb1, hnb2⟩ := hnb
                by_cases hkl : k < l.length
                · obtain ⟨b2, o2, rfl, c0, c1, c2, c3, c4, c5, c6⟩ := HL.out.at k hkl
                  have hcb := HV.out.cb k hkl
                  obtain ⟨-, -, p1, p2, p3, p4, -, -, p5, p6, p7, -, -⟩ := hcb
                  have hsp := in_split (cth l k) a ((e : Int) + 1)
                  have h3 := two_and (decide ((a : Int) ≤ (cth l k).ea + (cth l k).pr)) (decide ((cth l k).la ≤ (e : Int) + 1))
                  rw [← hsp] at h3
                  clear hsp
                  rcases h3 with ⟨T1, HQ⟩ | ⟨T1, T2, HQ⟩ | ⟨T1, T2, HQ⟩
                  · have HN := Lib.hid (needTo_no HQ)
                    clear HQ
                    go_wp2_with (fail)
                    generalize hw3 : World.alloc _ _ = w3
                    obtain ⟨he3, o1, -⟩ := alloc1 hw3
                    clear hw3 o1
                    go_roundw
                    case rel => exact ⟨k + 1, by omega, by go_num, by rw [HN.out], hr.trans he3⟩
                    case measure => simp [intOf]; omega
                  · have HN := Lib.hid (needTo_no HQ)
                    clear HQ
                    go_wp2_with (fail)
                    generalize hw3 : World.alloc _ _ = w3
                    obtain ⟨he3, o1, -⟩ := alloc1 hw3
                    clear hw3 o1
                    go_roundw
                    case rel => exact ⟨k + 1, by omega, by go_num, by rw [HN.out], hr.trans he3⟩
                    case measure => simp [intOf]; omega
                  · have HN := Lib.hid (needTo_yes HQ)
                    clear HQ
                    go_wp2_with (fail)
                    generalize hw3 : World.alloc _ _ = w3
                    obtain ⟨he3, o1, -⟩ := alloc1 hw3
                    clear hw3 o1
                    go_roundw
                    case rel => exact ⟨k + 1, by omega, by go_num, by rw [HN.out], hr.trans he3⟩
                    case measure => simp [intOf]; omega
                · obtain rfl : k = l.length := by omega
                  cases T : decide (haveTo ha a (e + 1 - a) < needTo l a ((e : Int) + 1) l.length)
                  · have hf2 : Hid (∀ j, a ≤ j → j < e + 1 → crowdQ ha l a j = false) := fun j hj hj2 => by
                      rcases Nat.lt_succ_iff_lt_or_eq.1 hj2 with h | h
                      · exact hf.out j hj h
                      · rw [h]; exact T
                    go_wp2_with (fail)
                    go_roundw
                    case rel => exact ⟨e + 1, by omega, by omega, by go_num, rfl, hr, hf2⟩
                    case measure => simp [intOf]; omega
                  · have hz := crowd_some hae hlte T hf.out hg.out
                    have HZ := Lib.hid hz
                    have rf0 := rf wr hr
                    clear hz
                    go_wp2_with (fail)
                    refine bodyPost_ret (v := .tuple #[crval (crR ha l), .bool (crB ha l), .int .i64 (crE ha l)]) (by rw [HB.out.1, HB.out.2.1, HB.out.2.2, HZ.out.1, HZ.out.2]; simp [results, Try.results33, go_sem, r0 _ hr, r1 _ hr, r2 _ hr, r3 _ hr]) rfl ⟨rfl, ?_⟩
                    exact ((((he.trans hr).set (by simp) _).set (by simp) _).set (by simp) _).set (by simp) _
          · obtain rfl : e = ha.st.length := by omega
            have e1 := crowdIn_none hf.out
            have hg2 := Lib.hid (all_lt_succ (q := fun j => (crowdIn ha l j).isSome) hg.out (by rw [e1]; rfl))
            clear e1
            go_wp2_with (fail)
            go_roundw
            case rel => exact ⟨a + 1, by omega, by go_num, hr, hg2⟩
            case measure => simp [intOf]; omega
      · obtain rfl : a = ha.st.length := by omega
        have hz := crowd_none hg.out
        have HZ := Lib.hid hz
        have rf0 := rf wr hr
        clear hz
        go_wp2_with (fail)
        refine bodyPost_ret (v := .tuple #[crval (crR ha l), .bool (crB ha l), .int .i64 (crE ha l)]) (by rw [HB.out.1, HB.out.2.1, HB.out.2.2, HZ.out.1, HZ.out.2]; simp [results, Try.results33, go_sem, r0 _ hr, r1 _ hr, r2 _ hr, r3 _ hr, Cr.zero]) rfl ⟨rfl, ?_⟩
        exact ((((he.trans hr).set (by simp) _).set (by simp) _).set (by simp) _).set (by simp) _
end Go.Proofs.Ytjpgignbjkgjiaa
