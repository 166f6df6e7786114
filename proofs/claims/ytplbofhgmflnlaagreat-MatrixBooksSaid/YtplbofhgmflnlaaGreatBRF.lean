/-
  Books: what holds of a book between the calls of a log, and what each call does on both sides.
-/
import Derived.Test.YtplbofhgmflnlaaGreatBRA
import Derived.Test.YtplbofhgmflnlaaGreatBRE
import Derived.Test.YtplbofhgmflnlaaGreatON1
set_option linter.unusedVariables false
set_option linter.unusedSimpArgs false
namespace Go.Proofs.YtplbofhgmflnlaaGreat
open Go.RowKit
/-- What holds of a book's points between its calls. -/
structure BkI (n : Nat) (ord : List Int) (pl : Nat → Nat) (pts : List Pt) : Prop where
  plen : pts.length = n
  place : ∀ k, k < n → (qth pts k).place = (pl k : Int)
  pln : ∀ k, k < n → pl k < ord.length
  ordp : ∀ k, k < n → nth ord (pl k) = (k : Int)
  first : ∀ k, k < n → ∀ j, j < pl k → nth ord j ≠ (k : Int)
  rs : ∀ k, k < n → (qth pts k).st = 0 → (qth pts k).rs = ⟨#[]⟩
theorem BkI.set {n : Nat} {ord : List Int} {pl : Nat → Nat} {pts : List Pt} (h : BkI n ord pl pts) {k : Nat} (hk : k < n) (p : Pt) (hp : p.place = (qth pts k).place) (hr : p.st = 0 → p.rs = ⟨#[]⟩) : BkI n ord pl (pts.set k p) := by
  have e : ∀ j, j < n → qth (pts.set k p) j = if j = k then p else qth pts j := fun j hj => qth_set_at _ _ _ _ (by rw [h.plen]; exact hj)
  refine ⟨by rw [List.length_set]; exact h.plen, fun j hj => ?_, h.pln, h.ordp, h.first, fun j hj => ?_⟩
  · rw [e j hj]; split
    · rename_i hjk; rw [hp, hjk]; exact h.place k hk
    · exact h.place j hj
  · rw [e j hj]; split
    · exact hr
    · exact h.rs j hj
theorem BkI.start {n : Nat} {ord : List Int} {pl : Nat → Nat} {bl : Nat → Int} {pts : List Pt} {R : List Int} {last : List (Int × Int)} (h : OnceI n ord pl bl pts R last) (hnd : ord.Nodup) : BkI n ord pl pts := by
  refine ⟨h.plen, h.place, h.pln, h.ordp, fun k hk j hj e => ?_, fun k hk h0 => (h.rs k hk).2 (by omega)⟩
  have h1 := h.pln k hk
  have h2 := h.ordp k hk
  rw [← e, nth_eq _ _ h1, nth_eq _ _ (by omega)] at h2
  have := (List.getElem_inj hnd).1 h2
  omega
/-- The program's book and the box of the reference's. -/
structure BkS (w0 W : World) (B : Nat) (x : Bp) (pts : List Pt) (ord : List Int) (n yb : Nat) (z : Rb) : Prop where
  ext : Ext w0 W
  hB : w0.heap.size ≤ B
  hyb : w0.heap.size ≤ yb
  bk : BkAt W B x pts ord
  box : W.heap[yb]? = some (.cells #[.slice z.ba n z.bc, .slice z.oa n z.oc, .slice z.sa n z.sc, .slice z.ra n z.rc] 102 (0, 0))
/-- The reference's book, off the blocks that are written. -/
structure RbS (W : World) (x : Bp) (yb : Nat) (y : Rb) (pts : List Pt) (ord : List Int) : Prop where
  rb : RbAt W y pts ord
  o1 : OffB (gpB x) y
  o2 : OffB yb y
section
variable {w0 W W' : World} {B n yb : Nat} {x : Bp} {pts : List Pt} {ord : List Int} {z y : Rb}
theorem BkS.grow (h : BkS w0 W B x pts ord n yb z) (e : Ext W W') : BkS w0 W' B x pts ord n yb z := ⟨h.ext.trans e, h.hB, h.hyb, h.bk.ext e, e.block h.box⟩
theorem RbS.grow (h : RbS W x yb y pts ord) (e : Ext W W') : RbS W' x yb y pts ord := ⟨h.rb.ext e, h.o1, h.o2⟩
theorem RbS.prog (h : RbS W x yb y pts ord) (e : ExtX (gpB x) W W') : RbS W' x yb y pts ord := ⟨h.rb.extX e h.o1, h.o1, h.o2⟩
theorem RbS.boxed (h : RbS W x yb y pts ord) (e : ExtX yb W W') : RbS W' x yb y pts ord := ⟨h.rb.extX e h.o2, h.o1, h.o2⟩
theorem BkS.gpB_lt (h : BkS w0 W B x pts ord n yb z) (h0 : 0 < w0.heap.size) : gpB x < W.heap.size := by
  unfold gpB
  cases e : x.pa with
  | none => have := h.ext.size; simp only; omega
  | some p =>
    have := (h.bk.opts.lt p.block (by rw [e]; rfl)).2
    exact this
theorem BkS.call {gp : Nat} {pts' : List Pt} (h : BkS w0 W B x pts ord n yb z) (hgp : x.pa = some ⟨gp, 0, none⟩) (he : ExtX gp W W') (hb' : BkAt W' B x pts' ord) : BkS w0 W' B x pts' ord n yb z := by
  have hblk : (Value.slice x.pa pts.length x.pc).ownBlock = some gp := by rw [hgp]; rfl
  have hge : B ≤ gp := (h.bk.opts.lt gp hblk).1
  refine ⟨(h.ext.x.trans he).ext (Nat.le_trans h.hB hge), h.hB, h.hyb, hb', ?_⟩
  rw [he.block yb (lt_of_block h.box) (fun e => own_type_ne h.bk.opts h.box (by decide) (by rw [hblk, e]))]
  exact h.box
theorem rows_off {g : Nat} {L : List Rw} (h : RowsAt W B L) (e : ExtX g W W') (hg : ∀ r ∈ L, r.v.ownBlock ≠ some g) : RowsAt W' B L :=
  ⟨fun r hr => own_of_block (h.own r hr) fun k hk => e.block k ((h.own r hr).lt k hk).2 (fun q => hg r hr (by rw [hk, q])), h.off⟩
theorem BkS.put (h : BkS w0 W B x pts ord n yb z) (he : ExtX yb W W') (hb : W'.heap[yb]? = some (.cells #[.slice y.ba n y.bc, .slice y.oa n y.oc, .slice y.sa n y.sc, .slice y.ra n y.rc] 102 (0, 0))) : BkS w0 W' B x pts ord n yb y := by
  refine ⟨(h.ext.x.trans he).ext h.hyb, h.hB, h.hyb, rows_off h.bk he fun r hr => ?_, hb⟩
  have h1 := h.bk.own r hr
  simp only [bkL, List.mem_cons, List.mem_nil_iff, or_false] at hr
  rcases hr with rfl | rfl | rfl
  · exact own_type_ne h1 h.box (show (155 : TypeId) ≠ 102 by decide)
  · exact own_type_ne h1 h.box (show (157 : TypeId) ≠ 102 by decide)
  · exact own_type_ne h1 h.box (show (3 : TypeId) ≠ 102 by decide)
end
section
variable {n : Nat} {ord : List Int} {pl : Nat → Nat} {pts : List Pt}
theorem bk_take (hi : BkI n ord pl pts) (hb : InB n ord) (ho : ord.length = n) (hn : n ≤ 100000) (p : Int) : ∃ (E : Int) (pts' : List Pt),
    (∀ w0 W B x yb z, BkS w0 W B x pts ord n yb z → Calls Tryz.prog 54 #[bkV x, .int .i64 p] W (fun e w' => e = .returned (.int .i64 E) ∧ ExtX (gpB x) W w' ∧ BkS w0 w' B x pts' ord n yb z)) ∧
    (∀ W x yb y, gpB x < W.heap.size → yb < W.heap.size → RbS W x yb y pts ord → Calls Tryz.prog 55 #[rbV y n n, .int .i64 p] W (fun e w' => ∃ y' : Rb, e = .returned (.tuple #[rbV y' n n, .int .i64 E]) ∧ Ext W w' ∧ RbS w' x yb y' pts' ord)) ∧ BkI n ord pl pts' := by
  have hpn := hi.plen
  by_cases hk : p < 0 ∨ (pts.length : Int) ≤ p
  · refine ⟨3, pts, fun w0 W B x yb z h => (Take_no B x pts ord p W h.bk hk).mono ?_, fun W x yb y h1 h2 h => ?_, hi⟩
    · rintro e' w' ⟨rfl, he⟩
      exact ⟨rfl, he.x, h.grow he⟩
    · have := rTake_no y pts ord p W hk (by omega)
      rw [hpn, ho] at this
      refine this.mono ?_
      rintro e' w' ⟨rfl, he⟩
      exact ⟨y, rfl, he, h.grow he⟩
  · obtain ⟨k, rfl⟩ : ∃ k : Nat, p = (k : Int) := ⟨p.toNat, by omega⟩
    have hkp : k < pts.length := by omega
    have hkn : k < n := by omega
    have heq : (if takeE pts ord k = 0 then pts.set k { qth pts k with st := 1, rs := ⟨#[]⟩ } else pts) = if takeE pts ord k = 0 then pts.set k { qth pts k with st := 1 } else pts := by
      split
      · rename_i h0
        have hst : (qth pts k).st = 0 := by
          unfold takeE at h0
          split at h0
          · cases h0
          · rename_i h1; simpa using h1
        show pts.set k ⟨(qth pts k).blk, (qth pts k).place, 1, ⟨#[]⟩⟩ = pts.set k ⟨(qth pts k).blk, (qth pts k).place, 1, (qth pts k).rs⟩
        rw [hi.rs k hkn hst]
      · rfl
    refine ⟨takeE pts ord k, if takeE pts ord k = 0 then pts.set k { qth pts k with st := 1 } else pts, fun w0 W B x yb z h => ?_, fun W x yb y h1 h2 h => ?_, ?_⟩
    · obtain ⟨gp, hgp, -⟩ := h.bk.pt k hkp
      refine (Take_any B x pts ord k gp W h.bk hkp hgp (by rw [hpn]; exact hb) (by omega) (pl k) (hi.place k hkn) (Nat.le_of_lt (hi.pln k hkn))).mono ?_
      rintro e' w' ⟨rfl, he, hb'⟩
      exact ⟨rfl, by rw [gpB_some hgp]; exact he, h.call hgp he hb'⟩
    · have := rTake_any y pts ord k (pl k) W h.rb (by rw [hpn]; exact hb) (by omega) (by omega) hkp (hi.pln k hkn) (hi.ordp k hkn) (hi.first k hkn) (hi.place k hkn)
      rw [heq] at this
      rw [hpn, ho] at this
      refine this.mono ?_
      rintro e' w' ⟨y', rfl, he, hoff, hr⟩
      exact ⟨y', rfl, he, hr, hoff _ h1 h.o1, hoff _ h2 h.o2⟩
    · split
      · exact hi.set hkn _ rfl (by intro h; simp at h)
      · exact hi
theorem bk_decl (hi : BkI n ord pl pts) (hb : InB n ord) (ho : ord.length = n) (hn : n ≤ 100000) (p : Int) (r : ByteArray) (hr : r.size ≤ maxLen) : ∃ (E : Int) (pts' : List Pt),
    (∀ w0 W B x yb z, BkS w0 W B x pts ord n yb z → Calls Tryz.prog 56 #[bkV x, .int .i64 p, .string r] W (fun e w' => e = .returned (.int .i64 E) ∧ ExtX (gpB x) W w' ∧ BkS w0 w' B x pts' ord n yb z)) ∧
    (∀ W x yb y, gpB x < W.heap.size → yb < W.heap.size → RbS W x yb y pts ord → Calls Tryz.prog 57 #[rbV y n n, .int .i64 p, .string r] W (fun e w' => ∃ y' : Rb, e = .returned (.tuple #[rbV y' n n, .int .i64 E]) ∧ Ext W w' ∧ RbS w' x yb y' pts' ord)) ∧ BkI n ord pl pts' := by
  have hpn := hi.plen
  by_cases hk : p < 0 ∨ (pts.length : Int) ≤ p
  · refine ⟨3, pts, fun w0 W B x yb z h => (Declare_no B x pts ord p r W h.bk hk).mono ?_, fun W x yb y h1 h2 h => ?_, hi⟩
    · rintro e' w' ⟨rfl, he⟩
      exact ⟨rfl, he.x, h.grow he⟩
    · have := rDeclare_no y pts ord p r W hk (by omega)
      rw [hpn, ho] at this
      refine this.mono ?_
      rintro e' w' ⟨rfl, he⟩
      exact ⟨y, rfl, he, h.grow he⟩
  · obtain ⟨k, rfl⟩ : ∃ k : Nat, p = (k : Int) := ⟨p.toNat, by omega⟩
    have hkp : k < pts.length := by omega
    have hkn : k < n := by omega
    refine ⟨declE pts k r, if declE pts k r = 0 then pts.set k { qth pts k with st := 2, rs := r } else pts, fun w0 W B x yb z h => ?_, fun W x yb y h1 h2 h => ?_, ?_⟩
    · obtain ⟨gp, hgp, -⟩ := h.bk.pt k hkp
      refine (Declare_any B x pts ord k gp r W h.bk hkp hgp hr).mono ?_
      rintro e' w' ⟨rfl, he, hb'⟩
      exact ⟨rfl, by rw [gpB_some hgp]; exact he, h.call hgp he hb'⟩
    · have := rDeclare_any y pts ord k r W h.rb (by omega) hkp hr
      rw [hpn, ho] at this
      refine this.mono ?_
      rintro e' w' ⟨y', rfl, he, hoff, hr⟩
      exact ⟨y', rfl, he, hr, hoff _ h1 h.o1, hoff _ h2 h.o2⟩
    · split
      · exact hi.set hkn _ rfl (by intro h; simp at h)
      · exact hi
theorem bk_reop (hi : BkI n ord pl pts) (hb : InB n ord) (ho : ord.length = n) (hn : n ≤ 100000) (p : Int) : ∃ (E : Int) (pts' : List Pt),
    (∀ w0 W B x yb z, BkS w0 W B x pts ord n yb z → Calls Tryz.prog 58 #[bkV x, .int .i64 p] W (fun e w' => e = .returned (.int .i64 E) ∧ ExtX (gpB x) W w' ∧ BkS w0 w' B x pts' ord n yb z)) ∧
    (∀ W x yb y, gpB x < W.heap.size → yb < W.heap.size → RbS W x yb y pts ord → Calls Tryz.prog 59 #[rbV y n n, .int .i64 p] W (fun e w' => ∃ y' : Rb, e = .returned (.tuple #[rbV y' n n, .int .i64 E]) ∧ Ext W w' ∧ RbS w' x yb y' pts' ord)) ∧ BkI n ord pl pts' := by
  have hpn := hi.plen
  by_cases hk : p < 0 ∨ (pts.length : Int) ≤ p
  · refine ⟨3, pts, fun w0 W B x yb z h => (Reopen_no B x pts ord p W h.bk hk).mono ?_, fun W x yb y h1 h2 h => ?_, hi⟩
    · rintro e' w' ⟨rfl, he⟩
      exact ⟨rfl, he.x, h.grow he⟩
    · have := rReopen_no y pts ord p W hk (by omega)
      rw [hpn, ho] at this
      refine this.mono ?_
      rintro e' w' ⟨rfl, he⟩
      exact ⟨y, rfl, he, h.grow he⟩
  · obtain ⟨k, rfl⟩ : ∃ k : Nat, p = (k : Int) := ⟨p.toNat, by omega⟩
    have hkp : k < pts.length := by omega
    have hkn : k < n := by omega
    refine ⟨reopE pts ord k, if reopE pts ord k = 0 then pts.set k { qth pts k with st := 0, rs := ⟨#[]⟩ } else pts, fun w0 W B x yb z h => ?_, fun W x yb y h1 h2 h => ?_, ?_⟩
    · obtain ⟨gp, hgp, -⟩ := h.bk.pt k hkp
      refine (Reopen_any B x pts ord k gp W h.bk hkp hgp (by rw [hpn]; exact hb) (by omega) (pl k) (hi.place k hkn) (hi.pln k hkn)).mono ?_
      rintro e' w' ⟨rfl, he, hb'⟩
      exact ⟨rfl, by rw [gpB_some hgp]; exact he, h.call hgp he hb'⟩
    · have := rReopen_any y pts ord k (pl k) W h.rb (by rw [hpn]; exact hb) (by omega) (by omega) hkp (hi.pln k hkn) (hi.ordp k hkn) (hi.first k hkn) (hi.place k hkn)
      rw [hpn, ho] at this
      refine this.mono ?_
      rintro e' w' ⟨y', rfl, he, hoff, hr⟩
      exact ⟨y', rfl, he, hr, hoff _ h1 h.o1, hoff _ h2 h.o2⟩
    · split
      · exact hi.set hkn _ rfl (by intro _; rfl)
      · exact hi
end
end Go.Proofs.YtplbofhgmflnlaaGreat
