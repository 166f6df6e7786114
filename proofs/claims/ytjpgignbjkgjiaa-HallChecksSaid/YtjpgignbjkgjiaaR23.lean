/-
  Rooms: the room of each campaign.
-/
import Derived.Test.YtjpgignbjkgjiaaR22
import Derived.Test.YtjpgignbjkgjiaaA10
import Derived.Test.YtjpgignbjkgjiaaR7
import Derived.Deep.RegionHeld3
set_option linter.unusedVariables false
set_option linter.unusedSimpArgs false
namespace Go.Proofs.Ytjpgignbjkgjiaa
open Go.RowKit
attribute [local go_sem ↓] Go.wp_at_zero Go.wp_at_succ
theorem ExtX.setNew {X b : Nat} {w W : World} (h : ExtX X w W) (hb : w.heap.size ≤ b) (o : Nat) (u : Value) : ExtX X w (W.setCell ⟨b, o, none⟩ u) :=
  ⟨h.os, h.tape, h.output, by rw [show (W.setCell ⟨b, o, none⟩ u).heap.size = W.heap.size by simp [World.setCell]]; exact h.size, fun k hk hx => by rw [heap_set_ne u (by omega)]; exact h.block k hk hx⟩
theorem own_keep {w w' : World} {B : Nat} {v : Value} {xs : List Int} (h : OwnI w B v xs) (hk : ∀ k, B ≤ k → k < w.heap.size → w'.heap[k]? = w.heap[k]?) : OwnI w' B v xs := by
  obtain ⟨h1, h2⟩ := h
  refine ⟨h1, ?_⟩
  rcases h2 with h2 | ⟨g, cap, cur, hv, hg, hh, r⟩
  · exact .inl h2
  · exact .inr ⟨g, cap, cur, hv, hg, by rw [hk g hg (lt_of_block hh)]; exact hh, r⟩
theorem own_at {w w' : World} {B g n c : Nat} {xs : List Int} (h : OwnI w B (.slice (some ⟨g, 0, none⟩) n c) xs) (hk : w'.heap[g]? = w.heap[g]?) : OwnI w' B (.slice (some ⟨g, 0, none⟩) n c) xs := by
  obtain ⟨h1, h2⟩ := h
  refine ⟨h1, ?_⟩
  rcases h2 with ⟨h2, h3⟩ | ⟨g1, cap, cur, hv, hb, hh, r⟩
  · cases h2
  · have : g1 = g := by simp only [Value.slice.injEq, Option.some.injEq, Addr.mk.injEq] at hv; exact hv.1.1.symm
    subst this
    exact .inr ⟨g1, cap, cur, hv, hb, by rw [hk]; exact hh, r⟩
theorem own_farO {W w' : World} {B g n c : Nat} {xs : List Int} {o : Option Nat} (h : OwnI W B (.slice (some ⟨g, 0, none⟩) n c) xs) (hg : W.grownBy w' o) (hne : o ≠ some g) : OwnI w' B (.slice (some ⟨g, 0, none⟩) n c) xs :=
  own_at h (hg.block g (h.lt g rfl).2 (fun e => hne (by first | exact e | exact e.symm)))
theorem own_below {W : World} {B m o : Nat} {v u : Value} {xs : List Int} (h : OwnI W B v xs) (hm : m < B) : OwnI (W.setCell ⟨m, o, none⟩ u) B v xs :=
  own_keep h fun k hk _ => heap_set_ne u (by omega)
/-- The comparison of two campaigns. -/
def cfP (l : List Camp) (p : List Int) (u v : Int) : Int := bg l p u.toNat - nth p v.toNat + (cth l v.toNat).pr
theorem cfP_iff (l : List Camp) (p : List Int) (u v : Int) : cfP l p u v < 0 ↔ keyP l p u < keyP l p v := by unfold cfP keyP bg; omega
theorem enters65 : Enters Try.prog 65 := Enters.mk Try.func65 rfl rfl
theorem enters67 : Enters Try.prog 67 := Enters.mk Try.func67 rfl rfl
set_option maxHeartbeats 1000000 in
theorem cmp65 (ab lb : Nat) (l : List Camp) (la : Option Addr) (lc : Nat) (p : List Int) (pa : Option Addr) (pn pc : Nat) (u v : Nat) (w : World) (hl : Camps w la l) (hp : Ints w pa p) (hpn : p.length = pn) (hpl : l.length ≤ p.length)
    (hu : u < l.length) (hv : v < l.length) (hl16 : l.length ≤ 16) (hc : ∀ i, i < l.length → (0 ≤ nth p i ∧ nth p i ≤ 96) ∧ 0 ≤ (cth l i).pr ∧ (cth l i).pr ≤ 24)
    (s0 : ∀ W, Ext w W → W.cell? ⟨ab, 0, none⟩ = some (.slice pa pn pc)) (t0 : ∀ W, Ext w W → W.cell? ⟨lb, 0, none⟩ = some (.slice la l.length lc)) :
    Calls Try.prog 65 #[.int .i64 u, .int .i64 v, .pointer (some ⟨ab, 0, none⟩), .pointer (some ⟨lb, 0, none⟩)] w (Ret (.int .i64 (cfP l p u v)) w) := by
  obtain ⟨b1, o1, rfl, p0⟩ := hp.at u (by omega)
  obtain ⟨b1', o1', e1, p1⟩ := hp.at v (by omega)
  obtain ⟨rfl, rfl⟩ : b1 = b1' ∧ o1 = o1' := by simpa using e1
  obtain ⟨b2, o2, rfl, c0, c1, c2, c3, c4, c5, c6⟩ := hl.at u hu
  obtain ⟨b2', o2', e2, d0, d1, d2, d3, d4, d5, d6⟩ := hl.at v hv
  obtain ⟨rfl, rfl⟩ : b2 = b2' ∧ o2 = o2' := by simpa using e2
  have hcu := hc u hu
  have hcv := hc v hv
  obtain ⟨⟨x1, x2⟩, x3, x4⟩ := hcu
  obtain ⟨⟨y1, y2⟩, y3, y4⟩ := hcv
  have hup : u < pn := by omega
  have hvp : v < pn := by omega
  have hr0 := Ext.refl w
  have HR : Hid (nth p u - (cth l u).pr - nth p v + (cth l v).pr = cfP l p u v) := by
    unfold cfP bg
    simp only [Hid, Int.toNat_natCast]
  clear hc e1 e2 c0 c2 c3 c4 c5 c6 d0 d2 d3 d4 d5 d6 hl hp hpn hpl
  go_enter Try.func65, Try.ntmps65
  go_wp2_with (fail)
  refine wp_region_ext (by kernel_rfl) (by kernel_rfl) hr0 ?_
  repeat (first | go_big_quiet_step (fail) | quiet_step (fail))
  refine wpQuiet_nil ?_
  rintro _ ⟨nq, rfl⟩
  have hqq := nq.ok
  go_wp2_with (fail)
  go_ret
  exact ⟨by rw [HR.out]; rfl, hqq⟩
theorem free67 (n b : Int) (bt : Nat) (w : World) (hb : ∀ W, Ext w W → W.cell? ⟨bt, 0, none⟩ = some (.int .i64 b)) :
    Calls Try.prog 67 #[.int .i64 n, .pointer (some ⟨bt, 0, none⟩)] w (Ret (.bool (decide (n ≤ b))) w) := by
  have hr := Ext.refl w
  go_enter Try.func67, Try.ntmps67
  go_wp2_with (fail)
  go_ret
  exact ⟨rfl, Ext.refl _⟩
/-- The sort, beside a slice of the call's own. -/
theorem sortP_any (f : Nat) (cap : Array Value) (gr L : Nat) (R : List Int) (o : Value) (xs : List Int) (Q : Int → Prop) (cf : Int → Int → Int) (key : Int → Int) (w3 w5 : World) (hr : Ext w3 w5) (hgr : w3.heap.size ≤ gr)
    (hR : OwnI w5 gr (.slice (some ⟨gr, 0, none⟩) L L) R) (ho : OwnI w5 (gr + 1) o xs) (h16 : xs.length ≤ 16) (hQ : ∀ i, i < xs.length → Q (nth xs i))
    (hc : Enters Try.prog f ∧ ∀ W, Ext w3 W → ∀ u v, Q u → Q v → Calls Try.prog f (#[.int .i64 u, .int .i64 v] ++ cap) W (Ret (.int .i64 (cf u v)) W)) (hk : ∀ u v, Q u → Q v → (cf u v < 0 ↔ key u < key v)) :
    Calls Try.prog 64 #[o, .func (.func f) #[] cap] w5 (fun e w' => e = .returned (.tuple #[]) ∧ Ext w3 w' ∧ OwnI w' gr (.slice (some ⟨gr, 0, none⟩) L L) R ∧ OwnI w' (gr + 1) o (sortS key xs)) := by
  rcases Nat.eq_zero_or_pos xs.length with h0 | h0
  · obtain rfl := List.length_eq_zero_iff.1 h0
    obtain ⟨a, n, c, rfl⟩ := own_slice ho
    obtain ⟨-, rfl, -⟩ := ho.ints
    refine (sort_none f cap a c w5).mono ?_
    rintro e w' ⟨rfl, he⟩
    exact ⟨rfl, hr.trans he, hR.ext he, ho.ext he⟩
  · rcases ho.2 with ⟨_, hz⟩ | ⟨g, c, cur, rfl, hg, hh, _⟩
    · omega
    · refine (sort_any f cap (gr + 1) g xs.length c xs Q cf key w5 ho rfl h0 h16 hQ ⟨hc.1, fun W hW => hc.2 W ((hr.x.trans hW).ext (by omega))⟩ hk).mono ?_
      rintro e w' ⟨rfl, hx, ho'⟩
      exact ⟨rfl, (hr.x.trans hx).ext (by omega), own_at hR (hx.block gr (hR.lt gr rfl).2 (by omega)), ho'⟩
def roomsS (ha : Hal) (l : List Camp) (p : List Int) : List Int := if errS ha l p = 0 then fl l.length (roomF ha l p) else []
def RetRooms (ha : Hal) (l : List Camp) (p : List Int) (w : World) (e : Ending) (w' : World) : Prop :=
  ∃ a c, e = .returned (.tuple #[.slice a (roomsS ha l p).length c, .int .i64 (errS ha l p)]) ∧ Ext w w' ∧ Ints w' a (roomsS ha l p)
def negF (k : Nat) : Nat → Int := fun i => if i < k then -1 else 0
theorem negF_zero : negF 0 = fun _ => 0 := by funext i; simp [negF]
theorem negF_succ (k : Nat) : (fun i => if i = k then (-1 : Int) else negF k i) = negF (k + 1) := by
  funext i; unfold negF
  by_cases h : i = k
  · rw [if_pos h, if_pos (by omega)]
  · rw [if_neg h]
    by_cases h2 : i < k
    · rw [if_pos h2, if_pos (by omega)]
    · rw [if_neg h2, if_neg (by omega)]
theorem negF_end (ha : Hal) (l : List Camp) (p : List Int) : fl l.length (negF l.length) = fl l.length (stK ha l p 0).1 := fl_congr _ _ _ fun i hi => by
  unfold negF stK; rw [if_pos hi]; rfl
set_option maxRecDepth 100000 in
set_option maxHeartbeats 4000000 in
theorem Rooms_any (ha : Hal) (x : HP) (l : List Camp) (la : Option Addr) (lc : Nat) (p : List Int) (pa : Option Addr) (pn pc : Nat) (w : World) (hh : HallAt w ha x) (hl : Camps w la l) (hp : Ints w pa p) (hpn : p.length = pn) :
    Calls Try.prog 40 #[hval ha x, .slice la l.length lc, .slice pa pn pc] w (RetRooms ha l p w) := by
  have hcheck := fun W (h : Ext w W) => Check_any ha x l la lc p pa pn pc W (hh.ext h) (hl.ext h) (hp.ext h) hpn
  have HC := Lib.hid hcheck; clear hcheck
  have HPN := Lib.hid hpn; clear hpn
  have HL := Lib.hid hl; have HP' := Lib.hid hp
  obtain ⟨sa, sc, ea, ec⟩ := x
  clear hh hl hp
  cases T1 : (errS ha l p != 0)
  · have h0 : errS ha l p = 0 := by simpa using T1
    have HB : Hid (roomsS ha l p = fl l.length (roomF ha l p) ∧ errS ha l p = 0) := ⟨by rw [roomsS, if_pos h0], h0⟩
    obtain ⟨hv, hpl, hbr⟩ := errS_zero h0
    have HV := Lib.hid hv; have HBR := Lib.hid hbr
    have hpl' : l.length ≤ p.length := by omega
    have hpl2 : l.length ≤ pn := by rw [← HPN.out]; exact hpl'
    have hl16 := hv.ll
    have hn96 := hv.n2
    have hbd : Hid (∀ i, i < l.length → (0 ≤ nth p i ∧ nth p i ≤ 96) ∧ 0 ≤ (cth l i).pr ∧ (cth l i).pr ≤ 24) := fun i hi => by
      have := bg_in hv hbr hi
      exact ⟨⟨by omega, by omega⟩, (hv.cb i hi).pr0, (hv.cb i hi).pr1⟩
    obtain ⟨nr, hnr⟩ := Int.eq_ofNat_of_zero_le (show 0 ≤ ha.ro by have := hv.r0; omega)
    have hnr4 : nr ≤ 4 := by have := hv.r1; omega
    have hmk := run_madeI l.length (by omega)
    have hmk2 := run_madeI nr (by omega)
    have HNR := Lib.hid hnr
    clear h0 hv hpl hbr hnr
    go_enter Try.func40, Try.ntmps40
    go_wp2_with (fail)
    generalize hw1 : World.alloc _ _ = w1
    obtain ⟨he, o1, o2, o3, -⟩ := alloc3 hw1
    obtain ⟨b0, b1, b2, b3⟩ := obj_cells4 o1
    have l0 := obj_cells1 o2
    have q0 := obj_cells1 o3
    clear hw1 o1 o2 o3
    (with_reducible refine (HC.out _ he).mono ?_); rintro e w2 ⟨rfl, he2⟩
    go_upto_region 5 with fail
    clear hmk
    generalize hw3 : World.alloc w2 _ = w3
    obtain ⟨he3, -, hz3⟩ := alloc1 hw3
    generalize hw4 : madeI _ _ = w4
    obtain ⟨he4, hown, hz4⟩ := madeI_facts (by omega) hw4
    clear hw3 hw4
    have hr3 := (he.trans he2).trans he3
    have hE3 := he2.trans he3
    rw [hz3] at hown hz4
    generalize hg : w2.heap.size + 1 = g at *
    have HL3 := Lib.hid (HL.out.ext hr3)
    have HP3 := Lib.hid (HP'.out.ext hr3)
    replace b0 := fun W (h : Ext w3 W) => b0 W (hE3.trans h)
    rw [HNR.out] at b0
    replace l0 := fun W (h : Ext w3 W) => l0 W (hE3.trans h)
    replace q0 := fun W (h : Ext w3 W) => q0 W (hE3.trans h)
    obtain ⟨ab, hab⟩ : ∃ ab, ab = w.heap.size + 1 + 1 := ⟨_, rfl⟩
    obtain ⟨lb, hlb⟩ : ∃ lb, lb = w.heap.size + 1 := ⟨_, rfl⟩
    rw [show w.heap.size + 2 = ab from hab.symm] at q0
    rw [← hlb] at l0
    rw [← hab, ← hlb]
    clear hab hlb
    have hown0 := Lib.hid hown
    have hg3 : w3.heap.size ≤ g := by omega
    clear b1 b2 b3 HL HP' he he2 he3 hE3 hz3 hz4 hown hg
    have hrr := he4
    go_wp2_with (fail)
    go_loopw [11, 34] (fun o i wr => ∃ k : Nat, k ≤ l.length ∧ i = .int .i64 k ∧ Ext w3 wr ∧ Hid (OwnI wr g (.slice (some ⟨g, 0, none⟩) l.length l.length) (fl l.length (negF k))) ∧ Hid (OwnI wr (g + 1) o (prepsTo l k))) (fun _ i _ => l.length - (intOf i).toNat)
    case atStart => exact ⟨0, Nat.zero_le _, rfl, he4, by rw [negF_zero]; exact hown0.out, own_nil_i _ _⟩
    case round =>
      clear hown0 he4 hrr
      obtain ⟨k, hk, rfl, hr, hown, hord⟩ := hrel
      by_cases hlt : k < l.length
      · obtain ⟨b, o, rfl, c0, c1, c2, c3, c4, c5, c6⟩ := HL3.out.at k hlt
        go_upto_region 9 with fail
        generalize hw5 : World.alloc _ _ = w5
        obtain ⟨he5, o1, -⟩ := alloc1 hw5
        obtain ⟨a0, a1, a2, a3, a4, a5, a6⟩ := obj_cells7 o1
        obtain ⟨bc, hbc⟩ : ∃ bc, bc = wr.heap.size := ⟨_, rfl⟩
        have hbcg : bc ≠ g := by have := (hown.out.lt g rfl).2; omega
        rw [← hbc] at a1
        rw [← hbc]
        have hr5 := hr.trans he5
        have hown5 := Lib.hid (hown.out.ext he5)
        have hord5 := Lib.hid (hord.out.ext he5)
        clear hw5 o1 a0 a2 a3 a4 a5 a6 c0 c1 c2 c3 c4 c5 c6 hbc hown hord hr he5
        have hfr := ownI_free (fl_len _ _) hown5.out k
        have hcl := ownI_cell (fl_len _ _) hown5.out k hlt
        have hn2 := ownI_set (j := k) hown5.out (-1)
        rw [negF_succ] at hn2
        have HN2 := Lib.hid hn2
        have HO2 := Lib.hid (own_below (o := k) (u := .int .i64 (-1)) hord5.out (show g < g + 1 by omega))
        have hbx := ((ExtX.refl g w5).set k (.int .i64 (-1))).cell (a1 w5 (Ext.refl w5)) hbcg
        have hr6 := hr5.set (p := ⟨g, k, none⟩) (by simp; omega) (.int .i64 (-1))
        clear hn2 a1 hr5 hown5 hord5
        go_upto_region 10 with fail
        clear hfr hcl
        generalize World.setCell w5 _ _ = w6 at *
        have hst : prepsTo l (k + 1) = if 0 < (cth l k).pr then prepsTo l k ++ [(k : Int)] else prepsTo l k := rfl
        cases T : decide (0 < (cth l k).pr)
        · rw [if_neg (by simpa using T)] at hst
          rw [← hst] at HO2
          clear hst
          have T' : ¬ 0 < (cth l k).pr := by simpa using T
          go_wp2_with (fail)
          go_roundw
          case rel => exact ⟨k + 1, by omega, by go_num, hr6, HN2, HO2⟩
          case measure => simp [intOf]; omega
        · rw [if_pos (by simpa using T)] at hst
          have HST := Lib.hid hst
          clear hst
          have T' : 0 < (cth l k).pr := by simpa using T
          have hgs := (HN2.out.lt g rfl).2
          have happ := app_ints (w6.alloc (.cells #[.int .i64 (k : Nat)] 3)) (g + 1) 22 _ _ [(k : Int)] (some ⟨w6.heap.size, 0, none⟩) 1 (HO2.out.ext ((Ext.refl w6).alloc _)) (ints_one (heap_new _ _))
            (by have := prepsTo_len l k; simp; omega) (by rw [heap_size]; omega)
          have HA := Lib.hid happ
          have hblk := own_block HO2.out
          have hblk2 : ∀ q, Value.ownBlock u11 = some q → w3.heap.size ≤ q := fun q hq => by have := hblk q hq; omega
          have hblk3 : Value.ownBlock u11 ≠ some g := fun e => by have := hblk g e; omega
          have HN3 := Lib.hid (HN2.out.ext ((Ext.refl w6).alloc (.cells #[.int .i64 (k : Nat)] 3)))
          clear happ hgs
          go_wp2_with (at_builtin; refine wpList_app _ rfl _ _ 22 rfl _ HA.out ?_; rintro v' w' ⟨hv, hg⟩; have hge := grown_ext (hr6.alloc _) hg hblk2; have hge2 := Lib.hid (own_farO HN3.out hg hblk3); have HV' := Lib.hid hv; clear HA hg hv)
          go_roundw
          case rel => exact ⟨k + 1, by omega, by go_num, hge, hge2, by rw [HST.out]; exact HV'.out⟩
          case measure => simp [intOf]; omega
      · obtain rfl : k = l.length := by omega
        rw [negF_end ha l p] at hown
        have hsrt := sortP_any 65 #[.pointer (some ⟨ab, 0, none⟩), .pointer (some ⟨lb, 0, none⟩)] g l.length _ u11 (prepsTo l l.length) (fun v => ∃ i : Nat, v = i ∧ i < l.length) (cfP l p) (keyP l p) w3 wr hr hg3 hown.out hord.out (by have := prepsTo_len l l.length; omega)
          (fun i hi => by
            obtain ⟨j, h1, h2, h3⟩ := (mem_prepsTo l _ l.length).1 (nth_mem hi)
            exact ⟨j, h1, h2⟩)
          ⟨enters65, fun W hW u v hu hv => by
            obtain ⟨i, rfl, hi⟩ := hu
            obtain ⟨j, rfl, hj⟩ := hv
            exact cmp65 ab lb l la lc p pa pn pc i j W (HL3.out.ext hW) (HP3.out.ext hW) HPN.out hpl' hi hj hl16 hbd.out (fun W' h => q0 W' (hW.trans h)) (fun W' h => l0 W' (hW.trans h))⟩ (fun u v _ _ => cfP_iff l p u v)
        have HS := Lib.hid hsrt
        clear hsrt hown hord
        go_wp2_with (fail)
        (with_reducible refine HS.out.mono ?_); rintro e w6 ⟨rfl, hr6, hR6, ho6⟩
        have hoe : sortS (keyP l p) (prepsTo l l.length) = ordP l p := rfl
        rw [hoe] at ho6
        obtain ⟨ao, no, co, rfl⟩ := own_slice ho6
        have hno := ho6.ints.2.1
        have hn16 := ordP_len l p
        have HNO := Lib.hid hno
        have HOX := Lib.hid (ho6.intsX (X := g) (by omega))
        have hno16 : no ≤ 16 := by omega
        have hR6' := Lib.hid hR6
        have b06 := fun W (h : Ext w6 W) => b0 W (hr6.trans h)
        clear HS hoe ho6 hno hn16 hR6 hr
        go_upto_region 15 with fail
        clear hmk2 b06
        generalize hw7 : madeI _ _ = w7
        obtain ⟨he7, hU, hz7⟩ := madeI_facts (by omega) hw7
        obtain ⟨gu, hgu⟩ : ∃ gu, gu = w6.heap.size := ⟨_, rfl⟩
        rw [← hgu] at hU
        have hgg : g < gu := by have := (hR6'.out.lt g rfl).2; omega
        have hst0 : Hid (OwnI w7 gu (.slice (some ⟨gu, 0, none⟩) nr nr) (fl nr (stK ha l p 0).2)) := hU
        have hR7 := Lib.hid (hR6'.out.ext he7)
        clear hU hw7 hz7 hR6'
        have hx7 : ExtX g w6 w7 := he7.x
        go_wp2_with (fail)
        rw [← hgu]
        have hgu1 : w6.heap.size ≤ gu := by omega
        clear hgu
        go_loopw [58] (fun i wr => ∃ k : Nat, k ≤ no ∧ i = .int .i64 k ∧ ExtX g w6 wr ∧ Hid (OwnI wr g (.slice (some ⟨g, 0, none⟩) l.length l.length) (fl l.length (stK ha l p k).1)) ∧ Hid (OwnI wr gu (.slice (some ⟨gu, 0, none⟩) nr nr) (fl nr (stK ha l p k).2))) (fun i _ => no - (intOf i).toNat)
        case atStart => exact ⟨0, Nat.zero_le _, rfl, hx7, hR7.out, hst0.out⟩
        case round =>
          clear hst0 hR7 hx7
          obtain ⟨k, hk, rfl, hx, hR, hU⟩ := hrel
          have hw3 : Ext w3 wr := (hr6.x.trans hx).ext hg3
          by_cases hlt : k < no
          · obtain ⟨i, r, hi, hil, hrn, hfree, hstep⟩ := stK_step HV.out HBR.out (show k < (ordP l p).length by rw [← HNO.out]; exact hlt)
            rw [HNR.out, Int.toNat_natCast] at hrn hfree
            obtain ⟨bo, oo, rfl, z0⟩ := (HOX.out.extX hx).ints.at k (by rw [← HNO.out]; exact hlt)
            rw [hi] at z0
            obtain ⟨b', o', rfl, d0⟩ := HP3.out.at i (by omega)
            obtain ⟨b, o, rfl, c0, c1, c2, c3, c4, c5, c6⟩ := HL3.out.at i hil
            have hrr := Ext.refl wr
            replace c1 := fun W (h : Ext wr W) => c1 W (hw3.trans h)
            replace d0 := fun W (h : Ext wr W) => d0 W (hw3.trans h)
            have q1 := fun W (h : Ext wr W) => q0 W (hw3.trans h)
            have l1 := fun W (h : Ext wr W) => l0 W (hw3.trans h)
            have hbdi := hbd.out i hil
            obtain ⟨⟨x1, x2⟩, x3, x4⟩ := hbdi
            have hip : i < pn := by omega
            have HFR := Lib.hid hfree; have HST := Lib.hid hstep
            clear c0 c2 c3 c4 c5 c6 hfree hstep hi
            go_upto_region 18 with fail
            have HWP : Hid (IntKind.i64.wrap (nth p i - (cth l i).pr) = bg l p i) := by rw [Hid, IntWalk.i64_in _ (by omega)]; rfl
            go_region_held3 (fun W => Ext wr W) (first | with_reducible assumption | exact Ext.drew (by with_reducible assumption) | exact Ext.alloc (by with_reducible assumption) _ | exact (Ext.alloc hrr _).drew) (fail)
            rw [HWP.out]
            have o9 := heap_new wr (.cells #[.int .i64 (bg l p i)] 3)
            have he9 : Ext wr (wr.alloc (.cells #[.int .i64 (bg l p i)] 3)).drew := (Ext.alloc hrr _).drew
            generalize hw9 : (wr.alloc (.cells #[.int .i64 (bg l p i)] 3)).drew = w9 at *
            have o9' : w9.heap[wr.heap.size]? = some (.cells #[.int .i64 (bg l p i)] 3 (0, 0)) := by rw [← hw9]; exact o9
            have hR9 := Lib.hid (hR.out.ext he9); have hU9 := Lib.hid (hU.out.ext he9)
            obtain ⟨bt, hbt⟩ : ∃ bt, bt = wr.heap.size := ⟨_, rfl⟩
            rw [← hbt] at o9'
            rw [← hbt]
            have t9 := obj_cells1 o9'
            have hix := indexFunc_int 67 #[.pointer (some ⟨bt, 0, none⟩)] (some ⟨gu, 0, none⟩) nr nr (fl nr (stK ha l p k).2) (fun v => decide (v ≤ bg l p i)) w9 (fl_len _ _) (by omega) hU9.out.ints.1
              fun q hq => ⟨enters67, fun W hW => free67 _ _ _ W (fun W' hW' => t9 W' (hW.trans hW'))⟩
            rw [findIdx_fl] at hix
            have hfr : fIdx (fun q => decide ((stK ha l p k).2 q ≤ bg l p i)) nr = some r := HFR.out
            rw [hfr] at hix
            have HIX : Hid (Calls Try.prog 66 #[.slice (some ⟨gu, 0, none⟩) nr nr, .func (.func 67) #[] #[.pointer (some ⟨bt, 0, none⟩)]] w9 (Ret (.int .i64 (r : Int)) w9)) := hix
            clear hix hfr o9 o9' t9 hw9 hbt hR hU
            go_wp2_with (fail)
            (with_reducible refine HIX.out.mono ?_); rintro e w10 ⟨rfl, he10⟩
            have he1 := he9.trans he10
            have hR10 := Lib.hid (hR9.out.ext he10); have hU10 := Lib.hid (hU9.out.ext he10)
            replace d0 := fun W (h : Ext w10 W) => d0 W (he1.trans h)
            replace q1 := fun W (h : Ext w10 W) => q1 W (he1.trans h)
            have hr10 := Ext.refl w10
            have hx10 := hx.trans he1.x
            clear hrr z0 c1 l1 HIX hR9 hU9 he9 he10 he1 hx hw3
            have f1 := ownI_free (fl_len _ _) hR10.out i
            have f2 := ownI_cell (fl_len _ _) hR10.out i hil
            have hU11 := Lib.hid (own_set (m := g) (o := i) hU10.out (.int .i64 (r : Int)) (by omega))
            have f3 := ownI_free (fl_len _ _) hU11.out r
            have f4 := ownI_cell (fl_len _ _) hU11.out r hrn
            have hRn := ownI_set (j := i) hR10.out (r : Int)
            have hRn2 := Lib.hid (own_set (m := gu) (o := r) hRn (.int .i64 (nth p i)) (by omega))
            have hUn2 := Lib.hid (ownI_set (j := r) hU11.out (nth p i))
            have hxn := (hx10.set i (.int .i64 (r : Int))).setNew (b := gu) (by omega) r (.int .i64 (nth p i))
            clear hRn hR10 hU10 hU11
            go_wp2_with (fail)
            go_roundw
            case rel => exact ⟨k + 1, by omega, by go_num, hxn, by rw [HST.out]; exact hRn2.out, by rw [HST.out]; exact hUn2.out⟩
            case measure => simp [intOf]; omega
          · obtain rfl : k = no := by omega
            rw [HNO.out, stK_end HV.out HBR.out] at hR
            have HR' := Lib.hid hR.out
            clear hR
            go_wp2_with (fail)
            go_ret2
            exact ⟨some ⟨g, 0, none⟩, l.length, by rw [HB.out.1, HB.out.2, fl_len]; rfl, hr3.trans hw3, by rw [HB.out.1]; exact HR'.out.ints.1⟩
  · have HB : Hid (roomsS ha l p = []) := by
      have : ¬ errS ha l p = 0 := by simpa using T1
      rw [Hid, roomsS, if_neg this]
    go_enter Try.func40, Try.ntmps40
    go_wp2_with (fail)
    generalize hw1 : World.alloc _ _ = w1
    obtain ⟨he, o1, o2, o3, -⟩ := alloc3 hw1
    obtain ⟨b0, b1, b2, b3⟩ := obj_cells4 o1
    have l0 := obj_cells1 o2
    have q0 := obj_cells1 o3
    clear hw1 o1 o2 o3
    (with_reducible refine (HC.out _ he).mono ?_); rintro e w2 ⟨rfl, he2⟩
    go_wp2_with (fail)
    go_ret2
    exact ⟨none, 0, by rw [HB.out]; rfl, (he.trans he2).alloc _, .inl HB.out⟩
end Go.Proofs.Ytjpgignbjkgjiaa
