import Derived.Test.YtjpgignbjkgjiaaA14
import Derived.Test.YtjpgignbjkgjiaaPlain
set_option linter.unusedVariables false
set_option linter.unusedSimpArgs false
namespace Go.Proofs.Ytjpgignbjkgjiaa
open Go.RowKit
theorem obj_cells8 {w : World} {b : Nat} {v0 v1 v2 v3 v4 v5 v6 v7 : Value} {T : TypeId} {fz : Nat × Nat} (h : w.heap[b]? = some (.cells #[v0, v1, v2, v3, v4, v5, v6, v7] T fz)) :
    (∀ W, Ext w W → W.cell? ⟨b, 0, none⟩ = some v0) ∧ (∀ W, Ext w W → W.cell? ⟨b, 1, none⟩ = some v1) ∧ (∀ W, Ext w W → W.cell? ⟨b, 2, none⟩ = some v2) ∧ (∀ W, Ext w W → W.cell? ⟨b, 3, none⟩ = some v3) ∧
    (∀ W, Ext w W → W.cell? ⟨b, 4, none⟩ = some v4) ∧ (∀ W, Ext w W → W.cell? ⟨b, 5, none⟩ = some v5) ∧ (∀ W, Ext w W → W.cell? ⟨b, 6, none⟩ = some v6) ∧ (∀ W, Ext w W → W.cell? ⟨b, 7, none⟩ = some v7) :=
  let ⟨h0, h1, h2, h3, h4, h5, h6, h7, _⟩ := obj_cells h
  ⟨h0, h1, h2, h3, h4, h5, h6, h7⟩
theorem lt_of_block {w : World} {b : Nat} {o : Obj} (h : w.heap[b]? = some o) : b < w.heap.size := by
  rcases Nat.lt_or_ge b w.heap.size with h1 | h1
  · exact h1
  · simp [Array.getElem?_eq_none h1] at h
theorem block_set {w : World} {b : Nat} {cs : Array Value} {T : TypeId} {fz : Nat × Nat} (h : w.heap[b]? = some (.cells cs T fz)) (o : Nat) (v : Value) : (w.setCell ⟨b, o, none⟩ v).heap[b]? = some (.cells (cs.setIfInBounds o v) T fz) := by
  have hlt := lt_of_block h
  simp only [World.setCell, Array.getElem?_modify]
  simp [h]
def CampsX (X : Nat) (w : World) (a : Option Addr) (cs : List Camp) : Prop := Camps w a cs ∧ (cs ≠ [] → ∀ d, a = some d → d.block ≠ X)
theorem CampsX.extX {X : Nat} {w w' : World} {a : Option Addr} {cs : List Camp} (h : CampsX X w a cs) (e : ExtX X w w') : CampsX X w' a cs := by
  obtain ⟨h1, h2⟩ := h
  refine ⟨?_, h2⟩
  by_cases hne : cs = []
  · exact .inl hne
  · rcases h1 with h | ⟨b, o, h1, h3⟩
    · exact .inl h
    · have hx : b ≠ X := h2 hne ⟨b, o, none⟩ h1
      refine .inr ⟨b, o, h1, fun i hi => ?_⟩
      obtain ⟨c0, c1, c2, c3, c4, c5, c6⟩ := h3 i hi
      exact ⟨e.cell c0 hx, e.cell c1 hx, e.cell c2 hx, e.cell c3 hx, e.cell c4 hx, e.cell c5 hx, e.cell c6 hx⟩
theorem Camps.x {X : Nat} {w : World} {a : Option Addr} {cs : List Camp} (h : Camps w a cs) (hX : w.heap.size ≤ X) : CampsX X w a cs := by
  refine ⟨h, fun hne d hd => ?_⟩
  rcases h with h | ⟨b, o, h1, h2⟩
  · exact absurd h hne
  · have h0 := lt_of_cell (h2 0 (List.length_pos_iff.2 hne)).1
    rw [hd] at h1
    simp only [Option.some.injEq] at h1
    subst h1
    simp at h0 ⊢; omega
/-- What the search keeps reading. -/
structure PlC (bs : Nat) (w : World) (ha : Hal) (x : HP) (l : List Camp) (la : Option Addr) : Prop where
  st : IntsX bs w x.sa ha.st
  en : IntsX bs w x.ea ha.en
  cs : CampsX bs w la l
theorem PlC.extX {bs : Nat} {w w' : World} {ha : Hal} {x : HP} {l : List Camp} {la : Option Addr} (h : PlC bs w ha x l la) (e : ExtX bs w w') : PlC bs w' ha x l la := ⟨h.st.extX e, h.en.extX e, h.cs.extX e⟩
theorem PlC.hall {bs : Nat} {w : World} {ha : Hal} {x : HP} {l : List Camp} {la : Option Addr} (h : PlC bs w ha x l la) : HallAt w ha x := ⟨h.st.ints, h.en.ints⟩
def BestV (bs : Nat) (w : World) (st : St) (bv : Value) : Prop := match st with | none => bv = .slice none 0 0 | some (p, _) => ∃ a c, bv = .slice a p.length c ∧ IntsX bs w a p
/-- The object of a search. -/
def Sr (w : World) (bs : Nat) (ha : Hal) (x : HP) (l : List Camp) (la : Option Addr) (lc : Nat) (st : St) : Prop :=
  ∃ bv, w.heap[bs]? = some (.cells #[.int .i64 ha.ro, .int .i64 ha.cl, .slice x.sa ha.st.length x.sc, .slice x.ea ha.en.length x.ec, .slice la l.length lc, bv, .int .i64 (stCost st), .bool (stFound st)] 116 (0, 0)) ∧ BestV bs w st bv
theorem BestV.extX {bs : Nat} {w w' : World} {st : St} {bv : Value} (h : BestV bs w st bv) (e : ExtX bs w w') : BestV bs w' st bv := by
  cases st with
  | none => exact h
  | some pc => obtain ⟨a, c, h1, h2⟩ := h; exact ⟨a, c, h1, h2.extX e⟩
theorem Sr.ext {w w' : World} {bs : Nat} {ha : Hal} {x : HP} {l : List Camp} {la : Option Addr} {lc : Nat} {st : St} (h : Sr w bs ha x l la lc st) (e : Ext w w') : Sr w' bs ha x l la lc st := by
  obtain ⟨bv, h1, h2⟩ := h
  exact ⟨bv, e.block h1, h2.extX e.x⟩
def RetP (bs : Nat) (w : World) (ha : Hal) (x : HP) (l : List Camp) (la : Option Addr) (lc : Nat) (st' : St) (e : Ending) (w' : World) : Prop := e = .returned (.tuple #[]) ∧ ExtX bs w w' ∧ Sr w' bs ha x l la lc st'
set_option maxRecDepth 100000 in
set_option maxHeartbeats 2000000 in
theorem place_end_n (ha : Hal) (x : HP) (l : List Camp) (la : Option Addr) (lc bs : Nat) (hv : VH ha l) (ss : List SL) (a : Option Addr) (c : Nat) (st : St) (w : World) (hlen : ss.length = l.length) (hpl : PlC bs w ha x l la) (hbd : Bd (lsts ss)) (hss : SLsX bs w a ss)
    (hsr : Sr w bs ha x l la lc st) (hpr : pruned l (lsts ss) st = false) (F : stFound st = false) :
    Calls Try.prog 78 #[.pointer (some ⟨bs, 0, none⟩), .int .i64 (l.length : Nat), .slice a ss.length c] w (RetP bs w ha x l la lc (placeS ha l 0 (lsts ss) st)) := by
  obtain ⟨bv, hblk, hbest⟩ := hsr
  have hbs := lt_of_block hblk
  obtain ⟨s0, s1, s2, s3, s4, s5, s6, s7⟩ := obj_cells8 hblk
  have sf := obj_free hblk
  have hpr2 := hpr
  simp only [pruned, Bool.or_eq_false_iff] at hpr
  obtain ⟨hae, hpc⟩ := hpr
  have hll : (lsts ss).length = l.length := by rw [lsts_len, hlen]
  have hne : ∀ i, i < l.length → 0 < (lth (lsts ss) i).length := fun i hi => notEmpty hae i (by omega)
  have hpb : ∀ i, i < l.length → 0 ≤ nth (planOf (lsts ss)) i ∧ nth (planOf (lsts ss)) i ≤ 96 := fun i hi => by
    rw [nth_planOf _ _ (by omega)]; exact (hbd i (by omega)).2 0 (hne i hi)
  have hcon := fun W (h : Ext w W) => contains81 bs a c ss W (by rw [hlen]; have := hv.ll; omega) (hss.ext h)
  have hlea := fun W (h : Ext w W) => least_any bs bs l la lc a ss.length c ss W (fun W' h' => s4 W' (h.trans h')) (hpl.extX h.x).cs.1 (hss.ext h) rfl hlen.symm hv.ll ha.st.length hv.cb
    (fun i hi => by have := hne i hi; rwa [lth_lsts _ _ (by omega)] at this) (fun i hi => (hbd i (by omega)).2 0 (hne i hi))
  rw [hae] at hcon
  have hlen2 : (planOf (lsts ss)).length = ss.length := by rw [planOf_len, lsts_len]
  have hbr := fun W (h : Ext w W) pa (q : Ints W pa (planOf (lsts ss))) => breach_any ha x l la lc (planOf (lsts ss)) pa ss.length ss.length W (hpl.extX h.x).hall (hpl.extX h.x).cs.1 q (by omega) hlen2 hv
  have hco := fun W (h : Ext w W) pa (q : Ints W pa (planOf (lsts ss))) => cost_any l la lc ha.st.length (planOf (lsts ss)) pa ss.length ss.length W (hpl.extX h.x).cs.1 q (by omega) hlen2 hv.ll hv.cb hpb
  have HCON := Lib.hid hcon; have HLEA := Lib.hid hlea; have HBR := Lib.hid hbr; have HCO := Lib.hid hco
  have HSS := Lib.hid hss; have HBK := Lib.hid hblk; have HBV := Lib.hid hbest; have HLEN := Lib.hid hlen
  have HV := Lib.hid hv
  have HNE := Lib.hid hne
  have hl16 := hv.ll
  have hs16 : ss.length ≤ 16 := by omega
  have HEND := Lib.hid (placeS_end ha l (lsts ss) st hpr2)
  have HPF := Lib.hid (planOf_fl (lsts ss))
  clear hcon hlea hbr hco hblk hbest hpr2 hae hbd hpb hlen2 hv hll hne
  have hr0 := Ext.refl w
  have hlen' : ((l.length : Int) == (l.length : Int)) = true := beq_self_eq_true _
  have hmk := run_madeI ss.length (by omega)
  clear hss hpl hlen
  obtain ⟨sa, sc, ea, ec⟩ := x
  rw [F] at hpc s7
  try simp only [Bool.true_and] at hpc
  have HPC := Lib.hid hpc
  clear hpc
  go_enter Try.func78, Try.ntmps78
  go_wp2_with (fail)
  refine wp_region_ext (by kernel_rfl) (by kernel_rfl) hr0 ?_
  repeat (go_big_quiet_step ((first | (go_at_call 82; exact Calls.later (HCON.out _ (Later.ok _))) | (go_at_call 83; exact Calls.later (HLEA.out _ (Later.ok _))))))
  refine wpQuiet_nil ?_
  rintro _ ⟨nq, rfl⟩
  obtain ⟨w0, hw0⟩ : ∃ w0, w0 = nq.val := ⟨_, rfl⟩
  have h0 : Ext w w0 := hw0 ▸ nq.ok
  rw [← hw0]
  clear hw0 nq hr0
  go_wp2_with (fail)
  generalize hm : madeI w0 ss.length = wm
  obtain ⟨he1, hown, hz⟩ := madeI_facts (n := ss.length) (by omega) hm
  clear hm hmk
  have hg0 := h0.size
  have hm0 := h0.trans he1
  generalize hg : w0.heap.size = g at *
  go_loopw [45] (fun i wr => ∃ k : Nat, k ≤ ss.length ∧ i = .int .i64 k ∧ Ext w wr ∧ OwnI wr g (.slice (some ⟨g, 0, none⟩) ss.length ss.length) (fl ss.length fun i => if i < k then nth (lth (lsts ss) i) 0 else 0)) (fun i _ => ss.length - (intOf i).toNat)
  case atStart => exact ⟨0, Nat.zero_le _, rfl, hm0, by simpa using hown⟩
  case round =>
    clear hown hm0 he1 hz
    obtain ⟨k, hk, rfl, hr, hown⟩ := hrel
    by_cases hlt : k < ss.length
    · obtain ⟨b, o, rfl, d0⟩ := HSS.out.at k hlt
      have hii := (HSS.out.2 k hlt).ints
      have hlth := lth_lsts ss k hlt
      have hi0 := HNE.out k (by rw [← HLEN.out]; exact hlt)
      rw [hlth] at hi0
      obtain ⟨⟨qa, qxs, qc⟩, hs⟩ : ∃ s, s = sth ss k := ⟨_, rfl⟩
      rw [← hs] at d0 hi0 hii hlth
      dsimp only at d0 hi0 hii hlth
      obtain ⟨b2, o2, rfl, f0⟩ := hii.at 0 hi0
      have HLT := Lib.hid hlth
      clear hii hlth hs
      rw [Nat.add_zero] at f0
      have hfr := ownI_free (fl_len _ _) hown k
      have hc0 := ownI_cell (fl_len _ _) hown k hlt
      have hown4 := ownI_set (j := k) hown (nth qxs 0)
      have hr4 := hr.set (p := ⟨g, k, none⟩) (by exact hg0) (.int .i64 (nth qxs 0))
      have he : (fl ss.length fun i => if i = k then nth qxs 0 else if i < k then nth (lth (lsts ss) i) 0 else 0) = fl ss.length fun i => if i < k + 1 then nth (lth (lsts ss) i) 0 else 0 := by
        refine fl_congr _ _ _ fun i hi => ?_
        by_cases h : i = k
        · rw [if_pos h, if_pos (by omega), h, HLT.out]
        · rw [if_neg h]
          by_cases h2 : i < k
          · rw [if_pos h2, if_pos (by omega)]
          · rw [if_neg h2, if_neg (by omega)]
      rw [he] at hown4
      have HO4 := Lib.hid hown4
      clear hown4 hown he
      go_wp2_with (fail)
      go_roundw
      case rel => exact ⟨k + 1, by omega, by go_num, hr4, HO4.out⟩
      case measure => simp [intOf]; omega
    · obtain rfl : k = ss.length := by omega
      have he : (fl ss.length fun i => if i < ss.length then nth (lth (lsts ss) i) 0 else 0) = planOf (lsts ss) := by
        rw [HPF.out, lsts_len]
        exact fl_congr _ _ _ fun i hi => by rw [if_pos hi]
      rw [he] at hown
      have HO := Lib.hid hown
      have hin := hown.ints.1
      have HIN := Lib.hid hin
      have hgb : bs < g := by omega
      clear he hown hin
      have r0 := fun W (h : Ext wr W) => s0 W (hr.trans h)
      have r1 := fun W (h : Ext wr W) => s1 W (hr.trans h)
      have r2 := fun W (h : Ext wr W) => s2 W (hr.trans h)
      have r3 := fun W (h : Ext wr W) => s3 W (hr.trans h)
      have r4 := fun W (h : Ext wr W) => s4 W (hr.trans h)
      have r5 := fun W (h : Ext wr W) => s5 W (hr.trans h)
      have r6 := fun W (h : Ext wr W) => s6 W (hr.trans h)
      have r7 := fun W (h : Ext wr W) => s7 W (hr.trans h)
      have rf := fun W (h : Ext wr W) => sf W (hr.trans h)
      have hrr := Ext.refl wr
      go_wp2_with (fail)
      refine wp_region_ext (by kernel_rfl) (by kernel_rfl) hrr ?_
      repeat (go_big_quiet_step ((go_at_call 54; exact Calls.later (HBR.out _ (hr.trans (Later.ok _)) _ (HIN.out.ext (Later.ok _))))))
      refine wpQuiet_nil ?_
      rintro _ ⟨nq, rfl⟩
      have hq := nq.ok
      cases T4 : ((breachS ha l (planOf (lsts ss))).ru == 0)
      · have H2 : Hid (placeS ha l 0 (lsts ss) st = st) := by
          have : ¬ (breachS ha l (planOf (lsts ss))).ru = 0 := by simpa using T4
          rw [Hid, HEND.out, if_neg this]
        go_wp2_with (fail)
        go_end0
        refine ⟨rfl, (hr.trans hq).x, ?_⟩
        rw [H2.out]
        exact Sr.ext ⟨bv, HBK.out, HBV.out⟩ (hr.trans hq)
      · have H2 : Hid (placeS ha l 0 (lsts ss) st = some (planOf (lsts ss), costTo l (planOf (lsts ss)) l.length)) := by
          have : (breachS ha l (planOf (lsts ss))).ru = 0 := by simpa using T4
          rw [Hid, HEND.out, if_pos this]
        clear T4
        go_wp2_with (fail)
        (with_reducible refine (HCO.out _ (hr.trans hq) _ (HIN.out.ext hq)).mono ?_); rintro e w5 ⟨rfl, he5⟩
        have hq5 := hq.trans he5
        have rf0 := rf w5 hq5
        go_wp2_with (fail)
        go_end0
        have hblk5 := (hr.trans hq5).block HBK.out
        have hB := block_set (block_set (block_set hblk5 5 (.slice (some ⟨g, 0, none⟩) ss.length ss.length)) 6 (.int .i64 (costTo l (planOf (lsts ss)) l.length))) 7 (.bool true)
        have hX : ExtX bs w5 (((w5.setCell ⟨bs, 5, none⟩ (.slice (some ⟨g, 0, none⟩) ss.length ss.length)).setCell ⟨bs, 6, none⟩ (.int .i64 (costTo l (planOf (lsts ss)) l.length))).setCell ⟨bs, 7, none⟩ (.bool true)) := (((ExtX.refl bs w5).set 5 _).set 6 _).set 7 _
        refine ⟨rfl, (hr.trans hq5).x.trans hX, ?_⟩
        rw [H2.out]
        refine ⟨_, hB, some ⟨g, 0, none⟩, ss.length, by rw [planOf_len, lsts_len], ?_⟩
        exact ((HO.out.intsX hgb).ext hq5).extX hX
set_option maxRecDepth 100000 in
set_option maxHeartbeats 2000000 in
theorem place_end_y (ha : Hal) (x : HP) (l : List Camp) (la : Option Addr) (lc bs : Nat) (hv : VH ha l) (ss : List SL) (a : Option Addr) (c : Nat) (st : St) (w : World) (hlen : ss.length = l.length) (hpl : PlC bs w ha x l la) (hbd : Bd (lsts ss)) (hss : SLsX bs w a ss)
    (hsr : Sr w bs ha x l la lc st) (hpr : pruned l (lsts ss) st = false) (F : stFound st = true) :
    Calls Try.prog 78 #[.pointer (some ⟨bs, 0, none⟩), .int .i64 (l.length : Nat), .slice a ss.length c] w (RetP bs w ha x l la lc (placeS ha l 0 (lsts ss) st)) := by
  obtain ⟨bv, hblk, hbest⟩ := hsr
  have hbs := lt_of_block hblk
  obtain ⟨s0, s1, s2, s3, s4, s5, s6, s7⟩ := obj_cells8 hblk
  have sf := obj_free hblk
  have hpr2 := hpr
  simp only [pruned, Bool.or_eq_false_iff] at hpr
  obtain ⟨hae, hpc⟩ := hpr
  have hll : (lsts ss).length = l.length := by rw [lsts_len, hlen]
  have hne : ∀ i, i < l.length → 0 < (lth (lsts ss) i).length := fun i hi => notEmpty hae i (by omega)
  have hpb : ∀ i, i < l.length → 0 ≤ nth (planOf (lsts ss)) i ∧ nth (planOf (lsts ss)) i ≤ 96 := fun i hi => by
    rw [nth_planOf _ _ (by omega)]; exact (hbd i (by omega)).2 0 (hne i hi)
  have hcon := fun W (h : Ext w W) => contains81 bs a c ss W (by rw [hlen]; have := hv.ll; omega) (hss.ext h)
  have hlea := fun W (h : Ext w W) => least_any bs bs l la lc a ss.length c ss W (fun W' h' => s4 W' (h.trans h')) (hpl.extX h.x).cs.1 (hss.ext h) rfl hlen.symm hv.ll ha.st.length hv.cb
    (fun i hi => by have := hne i hi; rwa [lth_lsts _ _ (by omega)] at this) (fun i hi => (hbd i (by omega)).2 0 (hne i hi))
  rw [hae] at hcon
  have hlen2 : (planOf (lsts ss)).length = ss.length := by rw [planOf_len, lsts_len]
  have hbr := fun W (h : Ext w W) pa (q : Ints W pa (planOf (lsts ss))) => breach_any ha x l la lc (planOf (lsts ss)) pa ss.length ss.length W (hpl.extX h.x).hall (hpl.extX h.x).cs.1 q (by omega) hlen2 hv
  have hco := fun W (h : Ext w W) pa (q : Ints W pa (planOf (lsts ss))) => cost_any l la lc ha.st.length (planOf (lsts ss)) pa ss.length ss.length W (hpl.extX h.x).cs.1 q (by omega) hlen2 hv.ll hv.cb hpb
  have HCON := Lib.hid hcon; have HLEA := Lib.hid hlea; have HBR := Lib.hid hbr; have HCO := Lib.hid hco
  have HSS := Lib.hid hss; have HBK := Lib.hid hblk; have HBV := Lib.hid hbest; have HLEN := Lib.hid hlen
  have HV := Lib.hid hv
  have HNE := Lib.hid hne
  have hl16 := hv.ll
  have hs16 : ss.length ≤ 16 := by omega
  have HEND := Lib.hid (placeS_end ha l (lsts ss) st hpr2)
  have HPF := Lib.hid (planOf_fl (lsts ss))
  clear hcon hlea hbr hco hblk hbest hpr2 hae hbd hpb hlen2 hv hll hne
  have hr0 := Ext.refl w
  have hlen' : ((l.length : Int) == (l.length : Int)) = true := beq_self_eq_true _
  have hmk := run_madeI ss.length (by omega)
  clear hss hpl hlen
  obtain ⟨sa, sc, ea, ec⟩ := x
  rw [F] at hpc s7
  try simp only [Bool.true_and] at hpc
  have HPC := Lib.hid hpc
  clear hpc
  go_enter Try.func78, Try.ntmps78
  go_wp2_with (fail)
  refine wp_region_ext (by kernel_rfl) (by kernel_rfl) hr0 ?_
  repeat (go_big_quiet_step ((first | (go_at_call 82; exact Calls.later (HCON.out _ (Later.ok _))) | (go_at_call 83; exact Calls.later (HLEA.out _ (Later.ok _))))))
  refine wpQuiet_nil ?_
  rintro _ ⟨nq, rfl⟩
  obtain ⟨w0, hw0⟩ : ∃ w0, w0 = nq.val := ⟨_, rfl⟩
  have h0 : Ext w w0 := hw0 ▸ nq.ok
  rw [← hw0]
  clear hw0 nq hr0
  have hpc := of_decide_eq_false HPC.out
  go_wp2_with (fail)
  clear hpc
  generalize hm : madeI w0 ss.length = wm
  obtain ⟨he1, hown, hz⟩ := madeI_facts (n := ss.length) (by omega) hm
  clear hm hmk
  have hg0 := h0.size
  have hm0 := h0.trans he1
  generalize hg : w0.heap.size = g at *
  go_loopw [45] (fun i wr => ∃ k : Nat, k ≤ ss.length ∧ i = .int .i64 k ∧ Ext w wr ∧ OwnI wr g (.slice (some ⟨g, 0, none⟩) ss.length ss.length) (fl ss.length fun i => if i < k then nth (lth (lsts ss) i) 0 else 0)) (fun i _ => ss.length - (intOf i).toNat)
  case atStart => exact ⟨0, Nat.zero_le _, rfl, hm0, by simpa using hown⟩
  case round =>
    clear hown hm0 he1 hz
    obtain ⟨k, hk, rfl, hr, hown⟩ := hrel
    by_cases hlt : k < ss.length
    · obtain ⟨b, o, rfl, d0⟩ := HSS.out.at k hlt
      have hii := (HSS.out.2 k hlt).ints
      have hlth := lth_lsts ss k hlt
      have hi0 := HNE.out k (by rw [← HLEN.out]; exact hlt)
      rw [hlth] at hi0
      obtain ⟨⟨qa, qxs, qc⟩, hs⟩ : ∃ s, s = sth ss k := ⟨_, rfl⟩
      rw [← hs] at d0 hi0 hii hlth
      dsimp only at d0 hi0 hii hlth
      obtain ⟨b2, o2, rfl, f0⟩ := hii.at 0 hi0
      have HLT := Lib.hid hlth
      clear hii hlth hs
      rw [Nat.add_zero] at f0
      have hfr := ownI_free (fl_len _ _) hown k
      have hc0 := ownI_cell (fl_len _ _) hown k hlt
      have hown4 := ownI_set (j := k) hown (nth qxs 0)
      have hr4 := hr.set (p := ⟨g, k, none⟩) (by exact hg0) (.int .i64 (nth qxs 0))
      have he : (fl ss.length fun i => if i = k then nth qxs 0 else if i < k then nth (lth (lsts ss) i) 0 else 0) = fl ss.length fun i => if i < k + 1 then nth (lth (lsts ss) i) 0 else 0 := by
        refine fl_congr _ _ _ fun i hi => ?_
        by_cases h : i = k
        · rw [if_pos h, if_pos (by omega), h, HLT.out]
        · rw [if_neg h]
          by_cases h2 : i < k
          · rw [if_pos h2, if_pos (by omega)]
          · rw [if_neg h2, if_neg (by omega)]
      rw [he] at hown4
      have HO4 := Lib.hid hown4
      clear hown4 hown he
      go_wp2_with (fail)
      go_roundw
      case rel => exact ⟨k + 1, by omega, by go_num, hr4, HO4.out⟩
      case measure => simp [intOf]; omega
    · obtain rfl : k = ss.length := by omega
      have he : (fl ss.length fun i => if i < ss.length then nth (lth (lsts ss) i) 0 else 0) = planOf (lsts ss) := by
        rw [HPF.out, lsts_len]
        exact fl_congr _ _ _ fun i hi => by rw [if_pos hi]
      rw [he] at hown
      have HO := Lib.hid hown
      have hin := hown.ints.1
      have HIN := Lib.hid hin
      have hgb : bs < g := by omega
      clear he hown hin
      have r0 := fun W (h : Ext wr W) => s0 W (hr.trans h)
      have r1 := fun W (h : Ext wr W) => s1 W (hr.trans h)
      have r2 := fun W (h : Ext wr W) => s2 W (hr.trans h)
      have r3 := fun W (h : Ext wr W) => s3 W (hr.trans h)
      have r4 := fun W (h : Ext wr W) => s4 W (hr.trans h)
      have r5 := fun W (h : Ext wr W) => s5 W (hr.trans h)
      have r6 := fun W (h : Ext wr W) => s6 W (hr.trans h)
      have r7 := fun W (h : Ext wr W) => s7 W (hr.trans h)
      have rf := fun W (h : Ext wr W) => sf W (hr.trans h)
      have hrr := Ext.refl wr
      go_wp2_with (fail)
      refine wp_region_ext (by kernel_rfl) (by kernel_rfl) hrr ?_
      repeat (go_big_quiet_step ((go_at_call 54; exact Calls.later (HBR.out _ (hr.trans (Later.ok _)) _ (HIN.out.ext (Later.ok _))))))
      refine wpQuiet_nil ?_
      rintro _ ⟨nq, rfl⟩
      have hq := nq.ok
      cases T4 : ((breachS ha l (planOf (lsts ss))).ru == 0)
      · have H2 : Hid (placeS ha l 0 (lsts ss) st = st) := by
          have : ¬ (breachS ha l (planOf (lsts ss))).ru = 0 := by simpa using T4
          rw [Hid, HEND.out, if_neg this]
        go_wp2_with (fail)
        go_end0
        refine ⟨rfl, (hr.trans hq).x, ?_⟩
        rw [H2.out]
        exact Sr.ext ⟨bv, HBK.out, HBV.out⟩ (hr.trans hq)
      · have H2 : Hid (placeS ha l 0 (lsts ss) st = some (planOf (lsts ss), costTo l (planOf (lsts ss)) l.length)) := by
          have : (breachS ha l (planOf (lsts ss))).ru = 0 := by simpa using T4
          rw [Hid, HEND.out, if_pos this]
        clear T4
        go_wp2_with (fail)
        (with_reducible refine (HCO.out _ (hr.trans hq) _ (HIN.out.ext hq)).mono ?_); rintro e w5 ⟨rfl, he5⟩
        have hq5 := hq.trans he5
        have rf0 := rf w5 hq5
        go_wp2_with (fail)
        go_end0
        have hblk5 := (hr.trans hq5).block HBK.out
        have hB := block_set (block_set (block_set hblk5 5 (.slice (some ⟨g, 0, none⟩) ss.length ss.length)) 6 (.int .i64 (costTo l (planOf (lsts ss)) l.length))) 7 (.bool true)
        have hX : ExtX bs w5 (((w5.setCell ⟨bs, 5, none⟩ (.slice (some ⟨g, 0, none⟩) ss.length ss.length)).setCell ⟨bs, 6, none⟩ (.int .i64 (costTo l (planOf (lsts ss)) l.length))).setCell ⟨bs, 7, none⟩ (.bool true)) := (((ExtX.refl bs w5).set 5 _).set 6 _).set 7 _
        refine ⟨rfl, (hr.trans hq5).x.trans hX, ?_⟩
        rw [H2.out]
        refine ⟨_, hB, some ⟨g, 0, none⟩, ss.length, by rw [planOf_len, lsts_len], ?_⟩
        exact ((HO.out.intsX hgb).ext hq5).extX hX
end Go.Proofs.Ytjpgignbjkgjiaa
