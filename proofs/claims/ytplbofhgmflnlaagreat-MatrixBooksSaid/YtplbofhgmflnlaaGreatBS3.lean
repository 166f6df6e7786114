/-
  Texts merged: BR1, BR2, BR3.
-/
import Derived.Test.YtplbofhgmflnlaaGreatRO1
import Derived.Test.YtplbofhgmflnlaaGreatMK8
section
/-
  Walks: the reference's books: a name, where a point stands, what is open, what stands beside.
-/
set_option linter.unusedVariables false
set_option linter.unusedSimpArgs false
namespace Go.Proofs.YtplbofhgmflnlaaGreat
open Go.RowKit
/-- Where the lists of a book of the reference lie. -/
structure Rb where
  ba : Option Addr
  bc : Nat
  oa : Option Addr
  oc : Nat
  sa : Option Addr
  sc : Nat
  ra : Option Addr
  rc : Nat
abbrev rbV (x : Rb) (n m : Nat) : Value := .agg #[.slice x.ba n x.bc, .slice x.oa m x.oc, .slice x.sa n x.sc, .slice x.ra n x.rc]
def blC (p : Pt) : List Value := [.int .i64 p.blk]
def stC (p : Pt) : List Value := [.int .u8 p.st]
def rsC (p : Pt) : List Value := [.string p.rs]
theorem blC_len (p : Pt) : (blC p).length = 1 := rfl
theorem stC_len (p : Pt) : (stC p).length = 1 := rfl
theorem rsC_len (p : Pt) : (rsC p).length = 1 := rfl
/-- A book of the reference has these points and this order. -/
structure RbAt (w : World) (x : Rb) (pts : List Pt) (ord : List Int) : Prop where
  bl : RowAt 1 blC w x.ba pts
  ord : Ints w x.oa ord
  st : RowAt 1 stC w x.sa pts
  rs : RowAt 1 rsC w x.ra pts
theorem RbAt.ext {w w' : World} {x : Rb} {pts : List Pt} {ord : List Int} (h : RbAt w x pts ord) (e : Ext w w') : RbAt w' x pts ord :=
  ⟨RowAt.ext blC_len h.bl e, h.ord.ext e, RowAt.ext stC_len h.st e, RowAt.ext rsC_len h.rs e⟩
theorem bl_at {w : World} {a : Option Addr} {xs : List Pt} (h : RowAt 1 blC w a xs) (i : Nat) (hi : i < xs.length) : ∃ b o, a = some ⟨b, o, none⟩ ∧ ∀ W, Ext w W → W.cell? ⟨b, o + i, none⟩ = some (.int .i64 (qth xs i).blk) := by
  obtain ⟨b, o, h1, h2⟩ := RowAt.at blC_len h i hi
  rw [← qth_eq xs i hi] at h2
  exact ⟨b, o, h1, fun W e => by have := h2 0 (by omega) W e; simpa [blC] using this⟩
theorem st_at {w : World} {a : Option Addr} {xs : List Pt} (h : RowAt 1 stC w a xs) (i : Nat) (hi : i < xs.length) : ∃ b o, a = some ⟨b, o, none⟩ ∧ ∀ W, Ext w W → W.cell? ⟨b, o + i, none⟩ = some (.int .u8 (qth xs i).st) := by
  obtain ⟨b, o, h1, h2⟩ := RowAt.at stC_len h i hi
  rw [← qth_eq xs i hi] at h2
  exact ⟨b, o, h1, fun W e => by have := h2 0 (by omega) W e; simpa [stC] using this⟩
theorem rs_at {w : World} {a : Option Addr} {xs : List Pt} (h : RowAt 1 rsC w a xs) (i : Nat) (hi : i < xs.length) : ∃ b o, a = some ⟨b, o, none⟩ ∧ ∀ W, Ext w W → W.cell? ⟨b, o + i, none⟩ = some (.string (qth xs i).rs) := by
  obtain ⟨b, o, h1, h2⟩ := RowAt.at rsC_len h i hi
  rw [← qth_eq xs i hi] at h2
  exact ⟨b, o, h1, fun W e => by have := h2 0 (by omega) W e; simpa [rsC] using this⟩
theorem openL_step (pts : List Pt) (ord : List Int) (k : Nat) (hk : k < ord.length) : openL pts (ord.take (k + 1)) = if openP pts (nth ord k) then openL pts (ord.take k) else openL pts (ord.take k) ++ [nth ord k] := by
  unfold openL
  rw [List.take_add_one, List.getElem?_eq_getElem hk, List.filter_append, ← nth_eq ord k hk]
  cases h : openP pts (nth ord k) <;> simp [h]
theorem openL_len (pts : List Pt) (ord : List Int) : (openL pts ord).length ≤ ord.length := List.length_filter_le _ _
set_option maxRecDepth 100000 in
set_option maxHeartbeats 4000000 in
theorem rOpen_any (x : Rb) (pts : List Pt) (ord : List Int) (w : World) (h : RbAt w x pts ord) (hb : InB pts.length ord) (hn : ord.length ≤ 1000000) (hp : pts.length ≤ 1000000) :
    Calls Tryz.prog 102 #[rbV x pts.length ord.length] w (RetI (openL pts ord) w) := by
  have H := Lib.hid h
  have HIN := Lib.hid (fun k (hk : k < ord.length) => InB.at hb k hk)
  have HST := Lib.hid (fun k (hk : k < ord.length) => openL_step pts ord k hk)
  have HLN := Lib.hid (fun k => Nat.le_trans (openL_len pts (ord.take k)) (by rw [List.length_take]; exact Nat.min_le_right _ _))
  have HFI : Hid (openL pts (ord.take ord.length) = openL pts ord) := by rw [Hid, List.take_length]
  obtain ⟨ba, bc, oa, oc, sa, sc, ra, rc⟩ := x
  obtain ⟨n, hnn⟩ : ∃ n, n = pts.length := ⟨_, rfl⟩
  obtain ⟨m, hmm⟩ : ∃ m, m = ord.length := ⟨_, rfl⟩
  have HNN := Lib.hid hnn; have HMM := Lib.hid hmm
  rw [← hmm] at HIN HST HLN HFI hn ⊢
  rw [← hnn] at HIN hp ⊢
  clear h hb hnn hmm
  go_enter Tryz.func102, Tryz.ntmps102
  go_upto_region 1 with fail
  generalize hw1 : World.alloc _ _ = w1
  obtain ⟨he, o1, -⟩ := alloc1 hw1
  obtain ⟨b0, b1, b2, b3⟩ := obj_cells4 o1
  have HE := Lib.hid he
  have E1 := Ext.refl w1
  clear hw1 o1 he
  go_wp2_with (fail)
  have HR0 : Hid (RowsAt (w1.alloc (.cells #[] 3)) w1.heap.size [rwI (.slice (some ⟨w1.heap.size, 0, none⟩) 0 0) []]) := (RowsAt.nil w1 w1.heap.size).new (Nat.le_refl _)
  have HX0 : Hid (Ext w1 (w1.alloc (.cells #[] 3))) := E1.alloc _
  go_loopw [3, 4] (fun o i wr => ∃ (k : Nat), k ≤ m ∧ i = .int .i64 k ∧ Hid (Ext w1 wr) ∧ Hid (RowsAt wr w1.heap.size [rwI o (openL pts (ord.take k))])) (fun _ i _ => m - (intOf i).toNat)
  case atStart => exact ⟨0, Nat.zero_le _, rfl, HX0.out, HR0.out⟩
  case round =>
    obtain ⟨k, hk, rfl, HX, HR⟩ := hrel
    have hx := HX.out
    have B1 := fun W (e : Ext wr W) => b1 W (hx.trans e)
    have B2 := fun W (e : Ext wr W) => b2 W (hx.trans e)
    have hr0 := Ext.refl wr
    by_cases hlt : k < m
    · obtain ⟨p, hpn, hkp⟩ := HIN.out k hlt
      have HSk := Lib.hid (HST.out k hlt)
      rw [hkp] at HSk
      obtain ⟨ob, oo, rfl, c0⟩ := (H.out.ord.ext (HE.out.trans hx)).at k (by rw [← HMM.out]; exact hlt)
      rw [hkp] at c0
      obtain ⟨sb, so, rfl, d0⟩ := st_at (RowAt.ext stC_len H.out.st (HE.out.trans hx)) p (by rw [← HNN.out]; exact hpn)
      have hpi : (p : Int) < (n : Int) := by omega
      have hp0 : (0 : Int) ≤ (p : Int) := by omega
      have HOP : Hid (openP pts (p : Int) = ((qth pts p).st != 0)) := rfl
      rw [HOP.out] at HSk
      obtain ⟨s, hs⟩ : ∃ s, s = (qth pts p).st := ⟨_, rfl⟩
      rw [← hs] at d0 HSk
      clear hs hkp HOP
      by_cases hs0 : s = 0
      · subst hs0
        have hln := HLN.out k
        have HS2 : Hid (openL pts (ord.take (k + 1)) = openL pts (ord.take k) ++ [(p : Int)]) := by rw [Hid, HSk.out]; rfl
        clear HSk
        go_upto_region 5 with fail
        refine wp_region_ext (by kernel_rfl) (by kernel_rfl) hr0 ?_
        repeat (first | go_big_quiet_step (((fail))) | quiet_step (((fail))))
        refine wpQuiet_nil ?_
        rintro _ ⟨nq, rfl⟩
        have hx2 := hx.trans nq.ok
        have C0 := fun W (e : Ext nq.val W) => c0 W (nq.ok.trans e)
        have B1' := fun W (e : Ext nq.val W) => b1 W (hx2.trans e)
        have E2 := Ext.refl nq.val
        have HAP := Lib.hid ((HR.out.ext nq.ok).app1 (i := 0) rfl hx2.size (by omega) (p : Int))
        clear HR B1 B2 c0 d0 hr0
        go_wp2_with (at_builtin; refine wpList_app _ rfl _ _ 31 rfl _ HAP.out ?_; rintro v' w6 ⟨hv6, ⟨a6, c6, rfl⟩, he6⟩)
        have HR6 := Lib.hid hv6
        rw [← HS2.out] at HR6
        have HX6 : Hid (Ext w1 w6) := he6 w1 hx2 (Nat.le_refl _)
        clear hv6 he6 HAP HS2
        go_wp2_with (fail)
        go_roundw
        case rel => exact ⟨k + 1, by omega, by go_num, HX6.out, HR6.out⟩
        case measure => simp [intOf]; omega
      · have hsf : (s == 0) = false := by rw [beq_eq_false_iff_ne]; exact hs0
        have HS2 : Hid (openL pts (ord.take (k + 1)) = openL pts (ord.take k)) := by
          rw [Hid, HSk.out, if_pos (by simpa using hs0)]
        clear HSk
        go_upto_region 5 with fail
        refine wp_region_ext (by kernel_rfl) (by kernel_rfl) hr0 ?_
        repeat (first | go_big_quiet_step (((fail))) | quiet_step (((fail))))
        refine wpQuiet_nil ?_
        rintro _ ⟨nq, rfl⟩
        have HX6 := Lib.hid (hx.trans nq.ok)
        have HR6 := Lib.hid (HR.out.ext nq.ok)
        rw [← HS2.out] at HR6
        clear HR HS2
        go_wp2_with (fail)
        go_roundw
        case rel => exact ⟨k + 1, by omega, by go_num, HX6.out, HR6.out⟩
        case measure => simp [intOf]; omega
    · obtain rfl : k = m := by omega
      rw [HFI.out] at HR
      have hov : OwnI wr w1.heap.size u3 (openL pts ord) := HR.out.get (i := 0) rfl
      obtain ⟨va, vn, vc, rfl⟩ := own_slice hov
      obtain ⟨-, hvn, -⟩ := hov.ints
      subst hvn
      have HOV : Hid (OwnI wr w.heap.size (.slice va (openL pts ord).length vc) (openL pts ord)) := own_down hov HE.out.size
      clear hov HR
      go_wp2_with (fail)
      go_ret
      exact ⟨va, vc, rfl, HE.out.trans hx, HOV.out⟩
end Go.Proofs.YtplbofhgmflnlaaGreat
end
section
/-
  Walks: the reference's books: where a point stands, and what stands beside it.
-/
set_option linter.unusedVariables false
set_option linter.unusedSimpArgs false
namespace Go.Proofs.YtplbofhgmflnlaaGreat
open Go.RowKit
set_option maxRecDepth 100000 in
set_option maxHeartbeats 4000000 in
theorem rPlace_any (x : Rb) (pts : List Pt) (ord : List Int) (p at' : Nat) (w : World) (h : RbAt w x pts ord) (hn : ord.length ≤ 1000000) (ha : at' < ord.length) (hat : nth ord at' = (p : Int)) (hf : ∀ j, j < at' → nth ord j ≠ (p : Int)) :
    Calls Tryz.prog 130 #[rbV x pts.length ord.length, .int .i64 (p : Int)] w (Ret (.int .i64 (at' : Int)) w) := by
  have H := Lib.hid h
  have HAT := Lib.hid hat; have HF := Lib.hid hf
  obtain ⟨ba, bc, oa, oc, sa, sc, ra, rc⟩ := x
  obtain ⟨n, hnn⟩ : ∃ n, n = pts.length := ⟨_, rfl⟩
  obtain ⟨m, hmm⟩ : ∃ m, m = ord.length := ⟨_, rfl⟩
  have HNN := Lib.hid hnn; have HMM := Lib.hid hmm
  rw [← hmm] at ha hn ⊢
  rw [← hnn]
  clear h hat hf hnn hmm
  go_enter Tryz.func130, Tryz.ntmps130
  go_upto_region 1 with fail
  generalize hw1 : World.alloc _ _ = w1
  obtain ⟨he, o1, -⟩ := alloc1 hw1
  obtain ⟨b0, b1, b2, b3⟩ := obj_cells4 o1
  have HE := Lib.hid he
  have E1 := Ext.refl w1
  clear hw1 o1 he
  go_wp2_with (fail)
  go_loopw [5] (fun i wr => ∃ (k : Nat), k ≤ at' ∧ i = .int .i64 k ∧ Hid (Ext w1 wr)) (fun i _ => at' - (intOf i).toNat)
  case atStart => exact ⟨0, Nat.zero_le _, rfl, Ext.refl _⟩
  case round =>
    obtain ⟨k, hk, rfl, HX⟩ := hrel
    have hx := HX.out
    have B1 := fun W (e : Ext wr W) => b1 W (hx.trans e)
    have Er := Ext.refl wr
    obtain ⟨ob, oo, rfl, c0⟩ := (H.out.ord.ext (HE.out.trans hx)).at k (by rw [← HMM.out]; omega)
    have hkm : (k : Int) < (m : Int) := by omega
    by_cases hlt : k < at'
    · have hne := HF.out k hlt
      obtain ⟨y, hy⟩ : ∃ y, y = nth ord k := ⟨_, rfl⟩
      rw [← hy] at c0 hne
      clear hy
      have hnf : (y != (p : Int)) = true := by rw [bne_iff_ne]; exact hne
      go_wp2_with (fail)
      go_roundw
      case rel => exact ⟨k + 1, by omega, by go_num, hx⟩
      case measure => simp [intOf]; omega
    · obtain rfl : k = at' := by omega
      rw [HAT.out] at c0
      go_wp2_with (fail)
      go_ret
      exact ⟨rfl, HE.out.trans hx⟩
/-- Whether the k-th point of the order stands beside another one, in its block, with this state. -/
def hitB (pts : List Pt) (ord : List Int) (bl st : Int) (bh : Bool) (at' k : Nat) : Bool := decide (k ≠ at') && (decide (at' < k) == bh) && someP pts bl st (nth ord k)
theorem any_nth (f : Int → Bool) (l : List Int) : l.any f = (List.range l.length).any fun i => f (nth l i) := by
  have : l = (List.range l.length).map fun i => nth l i := by
    refine List.ext_getElem (by simp) fun i h1 h2 => ?_
    rw [List.getElem_map, List.getElem_range, nth_eq _ _ h1]
  conv => lhs; rw [this]
  rw [List.any_map]
  rfl
theorem hit_any {pts : List Pt} {ord : List Int} {bl st : Int} {bh : Bool} {at' : Nat} (ha : at' < ord.length) : ((List.range ord.length).any fun k => hitB pts ord bl st bh at' k) = (if bh then ord.drop (at' + 1) else ord.take at').any (someP pts bl st) := by
  rw [Bool.eq_iff_iff]
  cases bh
  · simp only [Bool.false_eq_true, if_false, List.any_eq_true, List.mem_range, hitB, Bool.and_eq_true, decide_eq_true_eq, beq_iff_eq]
    constructor
    · rintro ⟨k, hk, ⟨h1, h2⟩, h3⟩
      have hka : k < at' := by
        have : ¬ at' < k := by simpa using h2
        omega
      refine ⟨nth ord k, ?_, h3⟩
      rw [nth_eq _ _ hk, List.mem_take_iff_getElem]
      exact ⟨k, by omega, rfl⟩
    · rintro ⟨y, hy, h3⟩
      rw [List.mem_take_iff_getElem] at hy
      obtain ⟨k, hk, rfl⟩ := hy
      have hk2 : k < ord.length := by omega
      exact ⟨k, hk2, ⟨by omega, by simp; omega⟩, by rw [nth_eq _ _ hk2]; exact h3⟩
  · simp only [if_true, List.any_eq_true, List.mem_range, hitB, Bool.and_eq_true, decide_eq_true_eq, beq_iff_eq]
    constructor
    · rintro ⟨k, hk, ⟨h1, h2⟩, h3⟩
      refine ⟨nth ord k, ?_, h3⟩
      rw [nth_eq _ _ hk, List.mem_drop_iff_getElem]
      exact ⟨k - (at' + 1), by omega, by congr 1; omega⟩
    · rintro ⟨y, hy, h3⟩
      rw [List.mem_drop_iff_getElem] at hy
      obtain ⟨k, hk, rfl⟩ := hy
      exact ⟨at' + 1 + k, by omega, ⟨by omega, by omega⟩, by rw [nth_eq _ _ (by omega)]; exact h3⟩
set_option maxRecDepth 100000 in
set_option maxHeartbeats 4000000 in
theorem rBeside_any (x : Rb) (pts : List Pt) (ord : List Int) (p at' : Nat) (bh : Bool) (st : Int) (w : World) (h : RbAt w x pts ord) (hb : InB pts.length ord) (hn : ord.length ≤ 1000000) (hm : pts.length ≤ 1000000) (hp : p < pts.length) (ha : at' < ord.length) (hat : nth ord at' = (p : Int)) (hf : ∀ j, j < at' → nth ord j ≠ (p : Int)) :
    Calls Tryz.prog 98 #[rbV x pts.length ord.length, .int .i64 (p : Int), .bool bh, .int .u8 st] w (Ret (.bool ((if bh then ord.drop (at' + 1) else ord.take at').any (someP pts (qth pts p).blk st))) w) := by
  have hpl := fun W (e : Ext w W) => rPlace_any x pts ord p at' W (h.ext e) hn ha hat hf
  rw [← hit_any ha]
  obtain ⟨G, hG⟩ : ∃ G : Nat → Bool, G = fun k => hitB pts ord (qth pts p).blk st bh at' k := ⟨_, rfl⟩
  have HG : Hid (∀ k, G k = (decide (k ≠ at') && (decide (at' < k) == bh) && (((qth pts (nth ord k).toNat).blk == (qth pts p).blk) && ((qth pts (nth ord k).toNat).st == st)))) := fun k => by rw [hG]; rfl
  show Calls Tryz.prog 98 _ w (Ret (.bool ((List.range ord.length).any fun k => hitB pts ord (qth pts p).blk st bh at' k)) w)
  rw [show (fun k => hitB pts ord (qth pts p).blk st bh at' k) = G from hG.symm]
  have HIN := Lib.hid (fun k (hk : k < ord.length) => InB.at hb k hk)
  have H := Lib.hid h
  obtain ⟨ba, bc, oa, oc, sa, sc, ra, rc⟩ := x
  try simp only at hpl
  have HPL := Lib.hid hpl
  obtain ⟨n, hnn⟩ : ∃ n, n = pts.length := ⟨_, rfl⟩
  obtain ⟨m, hmm⟩ : ∃ m, m = ord.length := ⟨_, rfl⟩
  have HNN := Lib.hid hnn; have HMM := Lib.hid hmm
  rw [← hmm] at HPL HIN hn ha ⊢
  rw [← hnn] at HPL HIN hm hp ⊢
  have HYES : Hid (∀ k, k < m → G k = true → (List.range m).any G = true) := fun k hk hg => by
    rw [List.any_eq_true]; exact ⟨k, List.mem_range.2 hk, hg⟩
  have HNO : Hid ((∀ k, k < m → G k = false) → (List.range m).any G = false) := fun hg => by
    rw [List.any_eq_false]
    intro k hk
    rw [hg k (List.mem_range.1 hk)]; simp
  obtain ⟨q, hq⟩ : ∃ q, q = (List.range m).any G := ⟨_, rfl⟩
  rw [← hq] at HYES HNO ⊢
  clear h hpl hb hat hf hG hnn hmm hq
  go_enter Tryz.func98, Tryz.ntmps98
  go_upto_region 1 with fail
  generalize hw1 : World.alloc _ _ = w1
  obtain ⟨he, o1, -⟩ := alloc1 hw1
  obtain ⟨b0, b1, b2, b3⟩ := obj_cells4 o1
  have HE := Lib.hid he
  have E1 := Ext.refl w1
  clear hw1 o1 he
  go_wp2_with (fail)
  (with_reducible refine (HPL.out _ HE.out).mono ?_); rintro e w2 ⟨rfl, he2⟩
  have HX2 := Lib.hid he2
  have hpi : (p : Int) < (n : Int) := by omega
  have hp0 : (0 : Int) ≤ (p : Int) := by omega
  clear he2
  go_wp2_with (fail)
  go_loopw [10] (fun i wr => ∃ (k : Nat), k ≤ m ∧ i = .int .i64 k ∧ Hid (Ext w1 wr) ∧ Hid (∀ j, j < k → G j = false)) (fun i _ => m - (intOf i).toNat)
  case atStart => exact ⟨0, Nat.zero_le _, rfl, HX2.out, fun j hj => by omega⟩
  case round =>
    obtain ⟨k, hk, rfl, HX, hh⟩ := hrel
    have hx := HX.out
    have B0 := fun W (e : Ext wr W) => b0 W (hx.trans e)
    have B1 := fun W (e : Ext wr W) => b1 W (hx.trans e)
    have B2 := fun W (e : Ext wr W) => b2 W (hx.trans e)
    have hr0 := Ext.refl wr
    by_cases hlt : k < m
    · obtain ⟨y, hyn, hky⟩ := HIN.out k hlt
      obtain ⟨ob, oo, rfl, c0⟩ := (H.out.ord.ext (HE.out.trans hx)).at k (by rw [← HMM.out]; exact hlt)
      rw [hky] at c0
      obtain ⟨sb, so, rfl, d0⟩ := st_at (RowAt.ext stC_len H.out.st (HE.out.trans hx)) y (by rw [← HNN.out]; exact hyn)
      obtain ⟨lb, lo, rfl, e0⟩ := bl_at (RowAt.ext blC_len H.out.bl (HE.out.trans hx)) y (by rw [← HNN.out]; exact hyn)
      obtain ⟨lb', lo', hlb, f0⟩ := bl_at (RowAt.ext blC_len H.out.bl (HE.out.trans hx)) p (by rw [← HNN.out]; exact hp)
      simp only [Option.some.injEq, Addr.mk.injEq, and_true] at hlb
      obtain ⟨rfl, rfl⟩ := hlb
      have HGk := Lib.hid (HG.out k)
      rw [hky, Int.toNat_natCast] at HGk
      have HYk := Lib.hid (HYES.out k hlt)
      have HNk : Hid (G k = false → ∀ j, j < k + 1 → G j = false) := fun h j hj => by
        rcases Nat.lt_succ_iff_lt_or_eq.1 hj with h1 | h1
        · exact hh.out j h1
        · subst h1; exact h
      have hyi : (y : Int) < (n : Int) := by omega
      have hy0 : (0 : Int) ≤ (y : Int) := by omega
      obtain ⟨by', hby⟩ : ∃ z, z = (qth pts y).blk := ⟨_, rfl⟩
      obtain ⟨bp, hbp⟩ : ∃ z, z = (qth pts p).blk := ⟨_, rfl⟩
      obtain ⟨sy, hsy⟩ : ∃ z, z = (qth pts y).st := ⟨_, rfl⟩
      rw [← hby, ← hbp, ← hsy] at HGk
      rw [← hby] at e0
      rw [← hbp] at f0
      rw [← hsy] at d0
      clear hby hbp hsy hky hh
      obtain ⟨g, hg⟩ : ∃ g, g = G k := ⟨_, rfl⟩
      rw [← hg] at HGk HYk HNk
      clear hg
      by_cases V1 : k = at'
      · have HN := Lib.hid (HNk.out (by rw [HGk.out]; simp [V1]))
        subst V1
        clear HGk HYk HNk
        go_upto_region 6 with fail
        refine wp_region_ext (by kernel_rfl) (by kernel_rfl) hr0 ?_
        repeat (first | go_big_quiet_step (((fail))) | quiet_step (((fail))))
        refine wpQuiet_nil ?_
        rintro _ ⟨nq, rfl⟩
        have HX3 := Lib.hid (hx.trans nq.ok)
        go_wp2_with (fail)
        go_roundw
        case rel => exact ⟨k + 1, by omega, by go_num, HX3.out, HN.out⟩
        case measure => simp [intOf]; omega
      · have v1 : ((k : Int) != (at' : Int)) = true := by rw [bne_iff_ne]; omega
        have hdk : (decide (at' < k)) = decide ((at' : Int) < (k : Int)) := by rw [decide_eq_decide]; omega
        rw [hdk] at HGk
        obtain ⟨t, ht⟩ : ∃ t, t = decide ((at' : Int) < (k : Int)) := ⟨_, rfl⟩
        have HT := Lib.hid ht
        rw [← ht] at HGk
        clear ht hdk
        cases bh
        · by_cases ct : (at' : Int) < (k : Int)
          · obtain rfl : t = true := by rw [HT.out]; exact decide_eq_true ct
            have HN := Lib.hid (HNk.out (by rw [HGk.out]; simp))
            clear HGk HYk HNk
            go_upto_region 6 with fail
            refine wp_region_ext (by kernel_rfl) (by kernel_rfl) hr0 ?_
            repeat (first | go_big_quiet_step (((fail))) | quiet_step (((fail))))
            refine wpQuiet_nil ?_
            rintro _ ⟨nq, rfl⟩
            have HX3 := Lib.hid (hx.trans nq.ok)
            go_wp2_with (fail)
            go_roundw
            case rel => exact ⟨k + 1, by omega, by go_num, HX3.out, HN.out⟩
            case measure => simp [intOf]; omega
          · obtain rfl : t = false := by rw [HT.out]; exact decide_eq_false ct
            by_cases V2 : by' = bp
            · subst V2
              by_cases V3 : sy = st
              · subst V3
                have HN : Hid (q = true) := HYk.out (by rw [HGk.out]; simp [V1])
                clear HGk HYk HNk
                go_upto_region 6 with fail
                refine wp_region_ext (by kernel_rfl) (by kernel_rfl) hr0 ?_
                repeat (first | go_big_quiet_step (((fail))) | quiet_step (((fail))))
                refine wpQuiet_nil ?_
                rintro _ ⟨nq, rfl⟩
                have HX3 := Lib.hid (hx.trans nq.ok)
                go_wp2_with (fail)
                go_ret
                exact ⟨by rw [HN.out]; rfl, HE.out.trans HX3.out⟩
              · have v3 : (sy == st) = false := by rw [beq_eq_false_iff_ne]; exact V3
                have HN := Lib.hid (HNk.out (by rw [HGk.out, v3]; simp))
                clear HGk HYk HNk V3
                go_upto_region 6 with fail
                refine wp_region_ext (by kernel_rfl) (by kernel_rfl) hr0 ?_
                repeat (first | go_big_quiet_step (((fail))) | quiet_step (((fail))))
                refine wpQuiet_nil ?_
                rintro _ ⟨nq, rfl⟩
                have HX3 := Lib.hid (hx.trans nq.ok)
                go_wp2_with (fail)
                go_roundw
                case rel => exact ⟨k + 1, by omega, by go_num, HX3.out, HN.out⟩
                case measure => simp [intOf]; omega
            · have v2 : (by' == bp) = false := by rw [beq_eq_false_iff_ne]; exact V2
              have HN := Lib.hid (HNk.out (by rw [HGk.out, v2]; simp))
              clear HGk HYk HNk V2
              go_upto_region 6 with fail
              refine wp_region_ext (by kernel_rfl) (by kernel_rfl) hr0 ?_
              repeat (first | go_big_quiet_step (((fail))) | quiet_step (((fail))))
              refine wpQuiet_nil ?_
              rintro _ ⟨nq, rfl⟩
              have HX3 := Lib.hid (hx.trans nq.ok)
              go_wp2_with (fail)
              go_roundw
              case rel => exact ⟨k + 1, by omega, by go_num, HX3.out, HN.out⟩
              case measure => simp [intOf]; omega
        · by_cases ct : (at' : Int) < (k : Int)
          · obtain rfl : t = true := by rw [HT.out]; exact decide_eq_true ct
            by_cases V2 : by' = bp
            · subst V2
              by_cases V3 : sy = st
              · subst V3
                have HN : Hid (q = true) := HYk.out (by rw [HGk.out]; simp [V1])
                clear HGk HYk HNk
                go_upto_region 6 with fail
                refine wp_region_ext (by kernel_rfl) (by kernel_rfl) hr0 ?_
                repeat (first | go_big_quiet_step (((fail))) | quiet_step (((fail))))
                refine wpQuiet_nil ?_
                rintro _ ⟨nq, rfl⟩
                have HX3 := Lib.hid (hx.trans nq.ok)
                go_wp2_with (fail)
                go_ret
                exact ⟨by rw [HN.out]; rfl, HE.out.trans HX3.out⟩
              · have v3 : (sy == st) = false := by rw [beq_eq_false_iff_ne]; exact V3
                have HN := Lib.hid (HNk.out (by rw [HGk.out, v3]; simp))
                clear HGk HYk HNk V3
                go_upto_region 6 with fail
                refine wp_region_ext (by kernel_rfl) (by kernel_rfl) hr0 ?_
                repeat (first | go_big_quiet_step (((fail))) | quiet_step (((fail))))
                refine wpQuiet_nil ?_
                rintro _ ⟨nq, rfl⟩
                have HX3 := Lib.hid (hx.trans nq.ok)
                go_wp2_with (fail)
                go_roundw
                case rel => exact ⟨k + 1, by omega, by go_num, HX3.out, HN.out⟩
                case measure => simp [intOf]; omega
            · have v2 : (by' == bp) = false := by rw [beq_eq_false_iff_ne]; exact V2
              have HN := Lib.hid (HNk.out (by rw [HGk.out, v2]; simp))
              clear HGk HYk HNk V2
              go_upto_region 6 with fail
              refine wp_region_ext (by kernel_rfl) (by kernel_rfl) hr0 ?_
              repeat (first | go_big_quiet_step (((fail))) | quiet_step (((fail))))
              refine wpQuiet_nil ?_
              rintro _ ⟨nq, rfl⟩
              have HX3 := Lib.hid (hx.trans nq.ok)
              go_wp2_with (fail)
              go_roundw
              case rel => exact ⟨k + 1, by omega, by go_num, HX3.out, HN.out⟩
              case measure => simp [intOf]; omega
          · obtain rfl : t = false := by rw [HT.out]; exact decide_eq_false ct
            have HN := Lib.hid (HNk.out (by rw [HGk.out]; simp))
            clear HGk HYk HNk
            go_upto_region 6 with fail
            refine wp_region_ext (by kernel_rfl) (by kernel_rfl) hr0 ?_
            repeat (first | go_big_quiet_step (((fail))) | quiet_step (((fail))))
            refine wpQuiet_nil ?_
            rintro _ ⟨nq, rfl⟩
            have HX3 := Lib.hid (hx.trans nq.ok)
            go_wp2_with (fail)
            go_roundw
            case rel => exact ⟨k + 1, by omega, by go_num, HX3.out, HN.out⟩
            case measure => simp [intOf]; omega
    · obtain rfl : k = m := by omega
      have HN := Lib.hid (HNO.out hh.out)
      go_wp2_with (fail)
      go_ret
      exact ⟨by rw [HN.out]; rfl, HE.out.trans hx⟩
end Go.Proofs.YtplbofhgmflnlaaGreat
end
section
/-
  Walk: the reference's Name.
-/
set_option linter.unusedVariables false
set_option linter.unusedSimpArgs false
namespace Go.Proofs.YtplbofhgmflnlaaGreat
open Go.RowKit
theorem sidx (s : ByteArray) (k : Nat) (h : k < s.size) : s[k] = s.data.toList.getD k 0 := by
  have h2 : k < s.data.toList.length := by simpa using h
  rw [List.getD_eq_getElem?_getD, List.getElem?_eq_getElem h2]
  simp only [Option.getD_some, Array.getElem_toList]
  rfl
theorem okc (k : Nat) (c : Nat) : okChar k c = ((decide (97 ≤ (c : Int)) && decide ((c : Int) ≤ 122)) || !(((k : Int) == 0) || (((c : Int) != 95) && (decide ((c : Int) < 48) || decide (57 < (c : Int)))))) := by
  unfold okChar
  rw [Bool.eq_iff_iff]
  simp only [Bool.or_eq_true, Bool.and_eq_true, Bool.not_eq_true', Bool.or_eq_false_iff, Bool.and_eq_false_iff, bne_iff_ne, beq_iff_eq, beq_eq_false_iff_ne, bne_eq_false_iff_eq, decide_eq_true_eq, decide_eq_false_iff_not, ne_eq]
  omega
set_option maxRecDepth 100000 in
set_option maxHeartbeats 4000000 in
theorem rName_any (s : ByteArray) (w : World) (hs : s.size ≤ maxLen) : Calls Tryz.prog 101 #[.string s] w (Ret (.bool (nameB s)) w) := by
  have hs' := hs
  unfold maxLen at hs'
  go_enter Tryz.func101, Tryz.ntmps101
  go_wp2_with (fail)
  go_loopw [3] (fun i wr => ∃ k : Nat, k ≤ s.size ∧ i = .int .i64 k ∧ Hid (Ext w wr) ∧ Hid (∀ j, j < k → okChar j (s.data.toList.getD j 0).toNat = true)) (fun i _ => s.size - (intOf i).toNat)
  case atStart => exact ⟨0, Nat.zero_le _, rfl, Ext.refl _, fun j h => by omega⟩
  case round =>
    obtain ⟨k, hk, rfl, her, hz⟩ := hrel
    by_cases hlt : k < s.size
    · have hi0 : (0 : Int) ≤ (k : Int) := by omega
      have hi1 : (k : Int) < (s.size : Int) := by omega
      have hsi := Lib.hid (sidx s k hlt)
      have hoc := okc k s[k].toNat
      have hyes : Hid (okChar k s[k].toNat = true → ∀ j, j < k + 1 → okChar j (s.data.toList.getD j 0).toNat = true) := fun h j hj => by
        by_cases q : j < k
        · exact hz.out j q
        · obtain rfl : j = k := by omega
          rw [← hsi.out]; exact h
      have hno : Hid (okChar k s[k].toNat = false → nameB s = false) := fun h => by
        unfold nameB
        rw [nameCh_false _ k (by rw [len_data]; exact hlt) (by rw [← hsi.out]; exact h)]; rfl
      obtain ⟨z, hzz⟩ : ∃ z, z = okChar k s[k].toNat := ⟨_, rfl⟩
      rw [← hzz] at hyes hno hoc
      have HOC := Lib.hid hoc
      clear hoc hzz
      cases A : decide (97 ≤ (s[k].toNat : Int)) <;> cases B : decide ((s[k].toNat : Int) ≤ 122) <;> cases C : ((k : Int) == 0) <;> cases D : ((s[k].toNat : Int) != 95) <;> cases E : decide ((s[k].toNat : Int) < 48) <;> cases F : decide (57 < (s[k].toNat : Int))
      all_goals
        have hc := HOC.out
        rw [A, B, C, D, E, F] at hc
        simp only [Bool.and_true, Bool.and_false, Bool.or_true, Bool.or_false, Bool.not_true, Bool.not_false, Bool.true_and, Bool.false_and, Bool.true_or, Bool.false_or] at hc
        subst hc
        go_wp2_with (fail)
        first
        | exact ⟨⟨k + 1, by omega, by go_num, her, hyes.out (by simp)⟩, by simp [intOf]; omega⟩
        | (go_ret; exact ⟨by rw [hno.out (by simp)]; rfl, her.out⟩)
    · obtain rfl : k = s.size := by omega
      have hc : nameCh s.data.toList = true := nameCh_true _ fun j hj => hz.out j (by rw [← len_data]; exact hj)
      have hp : Hid (nameB s = (decide (1 ≤ (s.size : Int)) && decide ((s.size : Int) ≤ 20))) := by
        rw [Hid]; unfold nameB
        rw [hc, Bool.eq_iff_iff]
        simp only [Bool.and_eq_true, bne_iff_ne, ne_eq, decide_eq_true_eq, true_and]; omega
      clear hc
      cases T1 : decide (1 ≤ (s.size : Int))
      · have h1 : Hid (nameB s = false) := by rw [Hid, hp.out, T1]; rfl
        go_wp2_with (fail)
        go_ret
        exact ⟨by rw [h1.out]; rfl, her.out⟩
      · have h1 : Hid (nameB s = decide ((s.size : Int) ≤ 20)) := by rw [Hid, hp.out, T1]; rfl
        go_wp2_with (fail)
        go_ret
        exact ⟨by rw [h1.out]; rfl, her.out⟩
end Go.Proofs.YtplbofhgmflnlaaGreat
end
