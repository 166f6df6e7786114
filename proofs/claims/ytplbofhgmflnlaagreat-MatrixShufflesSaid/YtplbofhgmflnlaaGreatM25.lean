/-
  Walks: a book's some, Open, Next, State, Done.
-/
import Derived.Test.YtplbofhgmflnlaaGreatM24
set_option linter.unusedVariables false
set_option linter.unusedSimpArgs false
namespace Go.Proofs.YtplbofhgmflnlaaGreat
open Go.RowKit
def someP (pts : List Pt) (bl st : Int) (i : Int) : Bool := ((qth pts i.toNat).blk == bl) && ((qth pts i.toNat).st == st)
theorem enters129 : Enters Tryz.prog 129 := Enters.mk Tryz.func129 rfl rfl
theorem enters104 : Enters Tryz.prog 104 := Enters.mk Tryz.func104 rfl rfl
set_option maxHeartbeats 2000000 in
theorem some1_any (B : Nat) (x : Bp) (pts : List Pt) (ord : List Int) (i : Nat) (bl st : Int) (Bb Bl Bt : Nat) (w : World) (h : BkAt w B x pts ord) (hi : i < pts.length)
    (c0 : ∀ W, Ext w W → W.cell? ⟨Bb, 0, none⟩ = some (bkV x)) (c1 : ∀ W, Ext w W → W.cell? ⟨Bl, 0, none⟩ = some (.int .i64 bl)) (c2 : ∀ W, Ext w W → W.cell? ⟨Bt, 0, none⟩ = some (.int .u8 st)) :
    Calls Tryz.prog 129 #[.int .i64 (i : Int), .pointer (some ⟨Bb, 0, none⟩), .pointer (some ⟨Bl, 0, none⟩), .pointer (some ⟨Bt, 0, none⟩)] w (Ret (.bool (someP pts bl st (i : Int))) w) := by
  obtain ⟨b0, b1⟩ := obj_cells2 h.blk
  obtain ⟨gp, hgp, -, -, d0, d1, d2, d3⟩ := h.pt i hi
  have E := Ext.refl w
  obtain ⟨gb, pa, pc, oa, oc⟩ := x
  simp only at b0 b1 c0 hgp
  subst hgp
  have HR : Hid (someP pts bl st (i : Int) = (((qth pts i).blk == bl) && ((qth pts i).st == st))) := rfl
  rw [HR.out]
  obtain ⟨p, hp⟩ : ∃ p, p = (qth pts i).blk := ⟨_, rfl⟩
  obtain ⟨q, hq⟩ : ∃ q, q = (qth pts i).st := ⟨_, rfl⟩
  rw [← hp] at d0 ⊢
  rw [← hq] at d2 ⊢
  generalize pts.length = n at *
  clear h d1 d3 HR hp hq
  have h0 : (0 : Int) ≤ (i : Int) := by omega
  have h1 : (i : Int) < (n : Int) := by omega
  have hr0 := Ext.refl w
  cases T : (p == bl)
  · go_enter Tryz.func129, Tryz.ntmps129
    go_wp2_with (fail)
    refine wp_region_ext (by kernel_rfl) (by kernel_rfl) hr0 ?_
    repeat (first | go_big_quiet_step (((fail))) | quiet_step (((fail))))
    refine wpQuiet_nil ?_
    rintro _ ⟨nq, rfl⟩
    have hq2 := nq.ok
    go_wp2_with (fail)
    go_ret
    exact ⟨rfl, hq2⟩
  · go_enter Tryz.func129, Tryz.ntmps129
    go_wp2_with (fail)
    refine wp_region_ext (by kernel_rfl) (by kernel_rfl) hr0 ?_
    repeat (first | go_big_quiet_step (((fail))) | quiet_step (((fail))))
    refine wpQuiet_nil ?_
    rintro _ ⟨nq, rfl⟩
    have hq2 := nq.ok
    go_wp2_with (fail)
    go_ret
    exact ⟨by simp, hq2⟩
/-- All numbers of a list are points. -/
def InB (n : Nat) (l : List Int) : Prop := ∀ y ∈ l, ∃ i : Nat, i < n ∧ y = (i : Int)
theorem InB.at {n : Nat} {l : List Int} (h : InB n l) (k : Nat) (hk : k < l.length) : ∃ i : Nat, i < n ∧ nth l k = (i : Int) := by
  rw [nth_eq _ _ hk]; exact h _ (List.getElem_mem _)
set_option maxHeartbeats 2000000 in
theorem some_any (B : Nat) (x : Bp) (pts : List Pt) (ord : List Int) (a : Option Addr) (l : List Int) (c : Nat) (bl st : Int) (w : World) (h : BkAt w B x pts ord) (hl : Ints w a l) (hb : InB pts.length l) (hn : l.length ≤ 1000000) :
    Calls Tryz.prog 97 #[bkV x, .slice a l.length c, .int .i64 bl, .int .u8 st] w (Ret (.bool (l.any (someP pts bl st))) w) := by
  have H := Lib.hid h; have HL := Lib.hid hl; have HB := Lib.hid hb
  clear h hl hb
  go_enter Tryz.func97, Tryz.ntmps97
  go_upto_region 1 with fail
  generalize hw1 : World.alloc _ _ = w1
  obtain ⟨he, o1, o2, o3, -⟩ := alloc3 hw1
  have HA : Hid (∀ i, i < l.length → Asks Tryz.prog 129 #[.pointer (some ⟨w.heap.size, 0, none⟩), .pointer (some ⟨w.heap.size + 1, 0, none⟩), .pointer (some ⟨w.heap.size + 2, 0, none⟩)] w1 (.int .i64 (nth l i)) (someP pts bl st (nth l i))) := fun i hi => ⟨enters129, fun W e => by
    obtain ⟨j, hj, hje⟩ := HB.out.at i hi
    rw [hje]
    have c0 := obj_cells1 o1; have c1 := obj_cells1 o2; have c2 := obj_cells1 o3
    exact some1_any B x pts ord j bl st _ _ _ W (H.out.ext (he.trans e)) hj (fun W' e' => c0 W' (e.trans e')) (fun W' e' => c1 W' (e.trans e')) (fun W' e' => c2 W' (e.trans e'))⟩
  have hcf := containsFunc_int 129 #[.pointer (some ⟨w.heap.size, 0, none⟩), .pointer (some ⟨w.heap.size + 1, 0, none⟩), .pointer (some ⟨w.heap.size + 2, 0, none⟩)] a l.length c l (someP pts bl st) w1 rfl (by omega) (HL.out.ext he) HA.out
  have HCF := Lib.hid hcf
  have HE := Lib.hid he
  clear hcf HA hw1 o1 o2 o3 he
  go_wp2_with (go_at_call 128; (with_reducible refine HCF.out.mono ?_); rintro e w2 ⟨rfl, he2⟩)
  go_ret
  exact ⟨rfl, HE.out.trans he2⟩
/-! ### Open -/
def openP (pts : List Pt) (i : Int) : Bool := (qth pts i.toNat).st != 0
/-- The points that are open, in their order. -/
def openL (pts : List Pt) (ord : List Int) : List Int := ord.filter fun i => !openP pts i
set_option maxHeartbeats 2000000 in
theorem open1_any (B : Nat) (x : Bp) (pts : List Pt) (ord : List Int) (i : Nat) (Bb : Nat) (w : World) (h : BkAt w B x pts ord) (hi : i < pts.length)
    (c0 : ∀ W, Ext w W → W.cell? ⟨Bb, 0, none⟩ = some (bkV x)) :
    Calls Tryz.prog 104 #[.int .i64 (i : Int), .pointer (some ⟨Bb, 0, none⟩)] w (Ret (.bool (openP pts (i : Int))) w) := by
  obtain ⟨b0, b1⟩ := obj_cells2 h.blk
  obtain ⟨gp, hgp, -, -, d0, d1, d2, d3⟩ := h.pt i hi
  have E := Ext.refl w
  obtain ⟨gb, pa, pc, oa, oc⟩ := x
  simp only at b0 b1 c0 hgp
  subst hgp
  have HR : Hid (openP pts (i : Int) = ((qth pts i).st != 0)) := rfl
  rw [HR.out]
  obtain ⟨q, hq⟩ : ∃ q, q = (qth pts i).st := ⟨_, rfl⟩
  rw [← hq] at d2 ⊢
  generalize pts.length = n at *
  clear h d0 d1 d3 HR hq
  have h0 : (0 : Int) ≤ (i : Int) := by omega
  have h1 : (i : Int) < (n : Int) := by omega
  go_enter Tryz.func104, Tryz.ntmps104
  go_wp2_with (fail)
  go_ret
  exact ⟨rfl, Ext.refl _⟩
theorem Open_nil (w : World) : Calls Tryz.prog 61 #[.pointer none] w (Ret (.slice none 0 0) w) := by
  go_enter Tryz.func61, Tryz.ntmps61
  go_wp2_with (fail)
  generalize hw1 : World.alloc _ _ = w1
  obtain ⟨he, o1, -⟩ := alloc1 hw1
  have b0 := obj_cells1 o1
  have E1 := Ext.refl w1
  have HE := Lib.hid he
  clear hw1 o1 he
  go_wp2_with (fail)
  go_ret
  exact ⟨rfl, HE.out⟩
set_option maxHeartbeats 2000000 in
theorem Open_any (B : Nat) (x : Bp) (pts : List Pt) (ord : List Int) (w : World) (h : BkAt w B x pts ord) (hb : InB pts.length ord) (hn : ord.length ≤ 1000000) :
    Calls Tryz.prog 61 #[bkV x] w (RetI (openL pts ord) w) := by
  obtain ⟨b0, b1⟩ := obj_cells2 h.blk
  have hcl := fun W (e : Ext w W) => clone_int x.oa x.oc ord W (h.ints.ext e) (by omega)
  have H := Lib.hid h; have HB := Lib.hid hb; have HCL := Lib.hid hcl
  obtain ⟨xo, hxo⟩ : ∃ xo, xo = x.oa := ⟨_, rfl⟩
  obtain ⟨xc, hxc⟩ : ∃ xc, xc = x.oc := ⟨_, rfl⟩
  rw [← hxo, ← hxc] at b1 HCL
  clear h hb hcl hxo hxc
  go_enter Tryz.func61, Tryz.ntmps61
  go_upto_region 3 with fail
  generalize hw1 : World.alloc _ _ = w1
  obtain ⟨he, o1, -⟩ := alloc1 hw1
  have c0 := obj_cells1 o1
  have p0 := fun W (e : Ext w1 W) => b0 W (he.trans e)
  have p1 := fun W (e : Ext w1 W) => b1 W (he.trans e)
  have E1 := Ext.refl w1
  have HE := Lib.hid he
  have HC := Lib.hid c0
  obtain ⟨bb, hbb⟩ : ∃ bb, bb = w.heap.size := ⟨_, rfl⟩
  rw [← hbb] at c0 HC ⊢
  clear hw1 o1 he b0 b1 hbb
  go_wp2_with (first | (go_at_call 82; (with_reducible refine (HCL.out _ HE.out).mono ?_); rintro e w2 ⟨a2, c2, rfl, he2, ho2⟩; have HD := Lib.hid (deleteFunc_int 104 #[.pointer (some ⟨bb, 0, none⟩)] a2 ord.length c2 w1.heap.size ord (openP pts) w1 w2 rfl (by omega) ho2 he2 (Nat.le_refl _) (fun i hi => ⟨enters104, fun W e => by obtain ⟨j, hj, hje⟩ := HB.out.at i hi; rw [hje]; exact open1_any B x pts ord j bb W (H.out.ext (HE.out.trans e)) hj (fun W' e' => HC.out W' (e.trans e'))⟩)); clear ho2) | (go_at_call 103; (with_reducible refine HD.out.mono ?_); rintro e w3 ⟨m, rfl, hm, he3, ho3⟩; have HM := Lib.hid hm; have HO3 := Lib.hid ho3; clear hm ho3 HD))
  go_ret
  have e1 : m = (openL pts ord).length := HM.out
  subst e1
  exact ⟨a2, c2, rfl, HE.out.trans he3, own_down HO3.out HE.out.size⟩
/-! ### Next, State, Done -/
theorem Next_nil (w : World) : Calls Tryz.prog 62 #[.pointer none] w (Ret (.tuple #[.int .i64 0, .bool false]) w) := by
  have ho := Open_nil w
  go_enter Tryz.func62, Tryz.ntmps62
  go_wp2_with (go_at_call 61; (with_reducible refine ho.mono ?_); rintro e w2 ⟨rfl, he2⟩)
  go_ret2
  exact ⟨rfl, he2⟩
def nextV (l : List Int) : Value := match l with | [] => .tuple #[.int .i64 0, .bool false] | i :: _ => .tuple #[.int .i64 i, .bool true]
set_option maxHeartbeats 1000000 in
theorem Next_any (B : Nat) (x : Bp) (pts : List Pt) (ord : List Int) (w : World) (h : BkAt w B x pts ord) (hb : InB pts.length ord) (hn : ord.length ≤ 1000000) :
    Calls Tryz.prog 62 #[bkV x] w (Ret (nextV (openL pts ord)) w) := by
  have HO := Lib.hid (Open_any B x pts ord w h hb hn)
  clear h hb
  cases hl : openL pts ord with
  | nil =>
    rw [hl] at HO
    go_enter Tryz.func62, Tryz.ntmps62
    go_wp2_with (go_at_call 61; (with_reducible refine HO.out.mono ?_); rintro e w2 ⟨a2, c2, rfl, he2, ho2⟩; clear ho2)
    go_ret2
    exact ⟨rfl, he2⟩
  | cons i0 ls =>
    rw [hl] at HO
    have hpos : 0 < (i0 :: ls).length := by simp
    have h0 : nth (i0 :: ls) 0 = i0 := rfl
    have HN : Hid (nextV (i0 :: ls) = .tuple #[.int .i64 i0, .bool true]) := rfl
    rw [HN.out]
    obtain ⟨m, hm⟩ : ∃ m, m = (i0 :: ls).length := ⟨_, rfl⟩
    have HI : Hid (∀ a2 c2 w2, OwnI w2 w.heap.size (.slice a2 m c2) (i0 :: ls) → ∃ b o, a2 = some ⟨b, o, none⟩ ∧ ∀ W, Ext w2 W → W.cell? ⟨b, o, none⟩ = some (.int .i64 i0)) := fun a2 c2 w2 ho => by
      obtain ⟨b, o, e1, e2⟩ := (OwnI.ints ho).1.at 0 hpos
      exact ⟨b, o, e1, fun W e => by have := e2 W e; rwa [h0, Nat.add_zero] at this⟩
    have HO2 : Hid (Calls Tryz.prog 61 #[bkV x] w (fun e w' => ∃ a c, e = .returned (.slice a m c) ∧ Ext w w' ∧ OwnI w' w.heap.size (.slice a m c) (i0 :: ls))) := by rw [hm]; exact HO.out
    rw [← hm] at hpos
    clear HO hl hm h0 HN
    go_enter Tryz.func62, Tryz.ntmps62
    go_upto_region 2 with (go_at_call 61; (with_reducible refine HO2.out.mono ?_); rintro e w2 ⟨a2, c2, rfl, he2, ho2⟩; obtain ⟨b, o, rfl, d0⟩ := HI.out _ _ _ ho2; clear ho2 HO2 HI)
    have E2 := Ext.refl w2
    go_wp2_with (fail)
    go_ret2
    exact ⟨rfl, he2⟩
theorem Done_nil (w : World) : Calls Tryz.prog 64 #[.pointer none] w (Ret (.bool false) w) := by
  go_enter Tryz.func64, Tryz.ntmps64
  go_wp2_with (fail)
  go_ret
  exact ⟨rfl, Ext.refl _⟩
set_option maxHeartbeats 1000000 in
theorem Done_any (B : Nat) (x : Bp) (pts : List Pt) (ord : List Int) (w : World) (h : BkAt w B x pts ord) (hb : InB pts.length ord) (hn : ord.length ≤ 1000000) :
    Calls Tryz.prog 64 #[bkV x] w (Ret (.bool (decide ((openL pts ord).length = 0))) w) := by
  have HO := Lib.hid (Open_any B x pts ord w h hb hn)
  clear h hb
  obtain ⟨m, hm⟩ : ∃ m, m = (openL pts ord).length := ⟨_, rfl⟩
  have HO2 : Hid (Calls Tryz.prog 61 #[bkV x] w (fun e w' => ∃ a c, e = .returned (.slice a m c) ∧ Ext w w')) := HO.out.mono (by
    rintro e w' ⟨a, c, h1, h2, -⟩
    rw [hm]
    exact ⟨a, c, h1, h2⟩)
  rw [← hm]
  clear HO hm
  go_enter Tryz.func64, Tryz.ntmps64
  go_wp2_with (go_at_call 61; (with_reducible refine HO2.out.mono ?_); rintro e w2 ⟨a2, c2, rfl, he2⟩)
  go_ret
  refine ⟨?_, he2⟩
  by_cases hm : m = 0
  · subst hm; simp
  · simp [hm]
theorem State_nil (k : Int) (w : World) : Calls Tryz.prog 63 #[.pointer none, .int .i64 k] w (Ret (.tuple #[.int .u8 0, .string ⟨#[]⟩, .int .i64 1]) w) := by
  have ho := find_nil k w
  go_enter Tryz.func63, Tryz.ntmps63
  go_wp2_with (go_at_call 96; (with_reducible refine ho.mono ?_); rintro e w2 ⟨rfl, he2⟩)
  go_ret3
  exact ⟨rfl, he2⟩
set_option maxHeartbeats 1000000 in
theorem State_no (B : Nat) (x : Bp) (pts : List Pt) (ord : List Int) (k : Int) (w : World) (h : BkAt w B x pts ord) (hk : k < 0 ∨ (pts.length : Int) ≤ k) : Calls Tryz.prog 63 #[bkV x, .int .i64 k] w (Ret (.tuple #[.int .u8 0, .string ⟨#[]⟩, .int .i64 3]) w) := by
  have ho := find_no B x pts ord k w h hk
  clear h
  go_enter Tryz.func63, Tryz.ntmps63
  go_wp2_with (go_at_call 96; (with_reducible refine ho.mono ?_); rintro e w2 ⟨rfl, he2⟩)
  go_ret3
  exact ⟨rfl, he2⟩
set_option maxHeartbeats 1000000 in
theorem State_ok (B : Nat) (x : Bp) (pts : List Pt) (ord : List Int) (k : Nat) (w : World) (h : BkAt w B x pts ord) (hk : k < pts.length) : Calls Tryz.prog 63 #[bkV x, .int .i64 (k : Int)] w (Ret (.tuple #[.int .u8 (qth pts k).st, .string (qth pts k).rs, .int .i64 0]) w) := by
  obtain ⟨gp, hgp, -, -, d0, d1, d2, d3⟩ := h.pt k hk
  have ho := Lib.hid (find_ok B x pts ord k gp w h hk hgp)
  obtain ⟨q, hq⟩ : ∃ q, q = (qth pts k).st := ⟨_, rfl⟩
  obtain ⟨r, hr⟩ : ∃ r, r = (qth pts k).rs := ⟨_, rfl⟩
  rw [← hq] at d2 ⊢
  rw [← hr] at d3 ⊢
  clear h d0 d1 hq hr hgp
  go_enter Tryz.func63, Tryz.ntmps63
  go_upto_region 4 with (go_at_call 96; (with_reducible refine ho.out.mono ?_); rintro e w2 ⟨rfl, he2⟩)
  have e2 := fun W (e : Ext w2 W) => d2 W (he2.trans e)
  have e3 := fun W (e : Ext w2 W) => d3 W (he2.trans e)
  have hr0 := Ext.refl w2
  clear d2 d3
  refine wp_region_ext (by kernel_rfl) (by kernel_rfl) hr0 ?_
  repeat (first | go_big_quiet_step (((fail))) | quiet_step (((fail))))
  refine wpQuiet_nil ?_
  rintro _ ⟨nq, rfl⟩
  have hq2 := nq.ok
  go_wp2_with (fail)
  go_ret3
  exact ⟨rfl, he2.trans hq2⟩
end Go.Proofs.YtplbofhgmflnlaaGreat
