/-
  Walks of the reference: told is play.
-/
import Derived.Test.YtlahejakcgoheaaSA
set_option linter.unusedVariables false
set_option linter.unusedSimpArgs false
namespace Go.Proofs.Ytlahejakcgoheaa
open Go.RowKit
theorem Byts.offR {w w' : World} {lo hz : Nat} {a : Option Addr} {xs : List UInt8} (h : Byts w a xs) (hX : ∀ k, lo ≤ k → k < hz → NoU8 w k) (hk : ExtR lo hz w w') : Byts w' a xs := by
  rcases h with h | ⟨b, o, h1, h2⟩
  · exact .inl h
  · refine .inr ⟨b, o, h1, fun i hi => ?_⟩
    have hc := h2 i hi
    have hlt : b < w.heap.size := lt_of_cell hc
    have hb : b < lo ∨ hz ≤ b := by
      rcases Nat.lt_or_ge b lo with q | q
      · exact .inl q
      · rcases Nat.lt_or_ge b hz with q2 | q2
        · exact absurd hc (hX b q q2 _ _)
        · exact .inr q2
    have he := hk.block b hlt hb
    have : w'.cell? ⟨b, o + i, none⟩ = w.cell? ⟨b, o + i, none⟩ := by unfold World.cell?; rw [he]
    rw [this]; exact hc
theorem Links.offR {w w' : World} {lo hz : Nat} {a : Option Addr} {xs : List Lv} (h : Links w a xs) (hX : ∀ k, lo ≤ k → k < hz → NoU8 w k) (hk : ExtR lo hz w w') : Links w' a xs := by
  refine ⟨?_, fun i hi => (h.2 i hi).offR hX hk⟩
  rcases h.1 with h | ⟨b, o, h1, h2⟩
  · exact .inl h
  · refine .inr ⟨b, o, h1, fun i hi => ?_⟩
    have hc := h2 i hi
    have hlt : b < w.heap.size := lt_of_cell hc.1
    have hb : b < lo ∨ hz ≤ b := by
      rcases Nat.lt_or_ge b lo with q | q
      · exact .inl q
      · rcases Nat.lt_or_ge b hz with q2 | q2
        · exact absurd hc.1 (hX b q q2 _ _)
        · exact .inr q2
    have he := hk.block b hlt hb
    have e : ∀ j, w'.cell? ⟨b, j, none⟩ = w.cell? ⟨b, j, none⟩ := fun j => by unfold World.cell?; rw [he]
    obtain ⟨c0, c1, c2, c3, c4, c5, c6, c7, c8, c9⟩ := hc
    exact ⟨(e _).trans c0, (e _).trans c1, (e _).trans c2, (e _).trans c3, (e _).trans c4, (e _).trans c5, (e _).trans c6, (e _).trans c7, (e _).trans c8, (e _).trans c9⟩
theorem Grow.base {w W : World} {al a : Option Addr} {xs ys : List Lv} (h : Grow W al xs a ys) (e : Ext w W) : Grow w al xs a ys := by
  exact h.imp id fun q => ⟨fun ad hd => Nat.le_trans e.size (q.1 ad hd), fun y hy => (q.2 y hy).imp id fun q ad hd => Nat.le_trans e.size (q ad hd)⟩
/-- What 'told' leaves of a good vault. -/
def RetTold (S : PV) (al : Option Addr) (xs : List Lv) (o : Op) (w : World) (e : Ending) (w' : World) : Prop :=
  ∃ a c ys la lc, e = .returned (.tuple #[rv false a ys.length c, resval (playR S o) la lc]) ∧ Ext w w' ∧ RvAt w' (playS S o) a ys ∧ Ents w' la (playR S o).list ∧ Grow w al xs a ys
def ToldQ (S : PV) (al : Option Addr) (xs : List Lv) (o : Op) (r : Res) (la : Option Addr) (lc : Nat) (N : Bool) (a : Option Addr) (n c : Nat) (W w' : World) : Prop :=
  N = false ∧ r = playR S o ∧ OwnE w' W.heap.size (.slice la r.list.length lc) r.list ∧ ∃ ys, n = ys.length ∧ Links w' a ys ∧ LksOk ys ∧ lks ys = (playS S o).chain ∧ Grow W al xs a ys
theorem RetVE.q {S S' : PV} {al : Option Addr} {xs : List Lv} {o : Op} {r : Res} {L : List Lk} {q : Int} {W w' : World} {e : Ending} (h : RetVE L (Grow W al xs) (.int .i64 q) W e w') (hL : L = (playS S o).chain) (hr : r = playR S o) (hl : r.list = []) :
    ∃ N a n c, e = .returned (.tuple #[rv N a n c, .int .i64 q]) ∧ Ext W w' ∧ ToldQ S al xs o r none 0 N a n c W w' := by
  obtain ⟨a, c, ys, h1, h2, h3, h4, h5, h6⟩ := h
  exact ⟨false, a, ys.length, c, h1, h2, rfl, hr, by rw [hl]; exact OwnF.nil _ _ _ _ _, ys, rfl, h3, h4, h5.trans hL, h6⟩
theorem RetVEE.q {S S' : PV} {al : Option Addr} {xs : List Lv} {o : Op} {r : Res} {L : List Lk} {m q : Int} {W w' : World} {e : Ending} (h : RetVEE L (Grow W al xs) (.int .i64 m) (.int .i64 q) W e w') (hL : L = (playS S o).chain) (hr : r = playR S o) (hl : r.list = []) :
    ∃ N a n c, e = .returned (.tuple #[rv N a n c, .int .i64 m, .int .i64 q]) ∧ Ext W w' ∧ ToldQ S al xs o r none 0 N a n c W w' := by
  obtain ⟨a, c, ys, h1, h2, h3, h4, h5, h6⟩ := h
  exact ⟨false, a, ys.length, c, h1, h2, rfl, hr, by rw [hl]; exact OwnF.nil _ _ _ _ _, ys, rfl, h3, h4, h5.trans hL, h6⟩
theorem RvAt.q {S : PV} {o : Op} {r : Res} {al : Option Addr} {xs : List Lv} {c : Nat} {W w' : World} (h : RvAt W S al xs) (e : Ext W w') (hS : playS S o = S) (hr : r = playR S o) (hl : r.list = []) : ToldQ S al xs o r none 0 false al xs.length c W w' :=
  ⟨rfl, hr, by rw [hl]; exact OwnF.nil _ _ _ _ _, xs, rfl, h.lk.ext e, h.ok, by rw [hS]; exact h.ch, Grow.same _ _ _⟩
theorem told_any (S : PV) (al : Option Addr) (xs : List Lv) (c : Nat) (o : Op) (w : World) (hR : RvAt w S al xs) (ho : OpOk o) (hn : o.name.size ≤ 1000) (hp : o.pass.size ≤ 1000) (hlb : o.label.size ≤ 1000) (hot : o.other.size ≤ 1000) (htx : o.text.size ≤ 1000000) :
    Calls Try.prog 23 #[rv false al xs.length c, opval o] w (RetTold S al xs o w) := by
  have hRx := fun W (e : Ext w W) => hR.ext e
  refine (told_walk false al xs.length c o w (ToldQ S al xs o) (fun k W e => ?_) (fun k W e => ?_) (fun k W e => ?_) (fun k W e => ?_) (fun k W e => ?_) (fun k W e => ?_) (fun k W e => ?_) (fun k W e => ?_) (fun k W e => ?_)).mono fun e w' h => ?_
  · refine (renrol_any S al xs c o.name o.pass W (hRx W e) hn hp).mono fun e' w' hr => ?_
    obtain ⟨N, a, n, c', h1, h2, h3⟩ := RetVE.q (S := S) (S' := S) (o := o) (r := ⟨0, ⟨#[]⟩, [], enrolE S o.name o.pass⟩) hr (by simp [playS, k]) (by simp [playR, k]) rfl
    exact ⟨N, a, n, c', _, h1, h2, h3⟩
  · refine (radv_any S al xs c o.day W (hRx W e) ho.d0 ho.d1).mono fun e' w' hr => ?_
    obtain ⟨N, a, n, c', h1, h2, h3⟩ := RetVE.q (S := S) (S' := S) (o := o) (r := ⟨0, ⟨#[]⟩, [], advE S o.day⟩) hr (by simp [playS, k]) (by simp [playR, k]) rfl
    exact ⟨N, a, n, c', _, h1, h2, h3⟩
  · refine (rseal_any S al xs c o.name o.pass o.label o.text o.day W (hRx W e) hn hp hlb htx ho.d0 ho.d1).mono fun e' w' hr => ?_
    obtain ⟨N, a, n, c', h1, h2, h3⟩ := RetVEE.q (S := S) (S' := S) (o := o) (r := ⟨if sealE S o.name o.pass o.label o.day o.text = 0 then (recsN S o.name : Int) + 1 else 0, ⟨#[]⟩, [], sealE S o.name o.pass o.label o.day o.text⟩) hr (by simp [playS, k]) (by simp [playR, k]) rfl
    exact ⟨N, a, n, c', _, _, h1, h2, h3⟩
  · refine (rrev_any S al xs c o.name o.pass o.text o.num W (hRx W e) hn hp htx ho.n0 ho.n1).mono fun e' w' hr => ?_
    obtain ⟨N, a, n, c', h1, h2, h3⟩ := RetVEE.q (S := S) (S' := S) (o := o) (r := ⟨if revE S o.name o.pass o.num o.text = 0 then ((recAt S o.name o.num).1.length : Int) + 1 else 0, ⟨#[]⟩, [], revE S o.name o.pass o.num o.text⟩) hr (by simp [playS, k]) (by simp [playR, k]) rfl
    exact ⟨N, a, n, c', _, _, h1, h2, h3⟩
  · refine (ropen_any S al xs c o.name o.pass o.num o.ver W (hRx W e) hn hp ho.v0 ho.v1).mono fun e' w' hr => ?_
    exact ⟨_, _, hr.1, hr.2, (hRx W e).q hr.2 (by simp [playS, k]) (by simp [playR, k]) rfl⟩
  · refine (rlist_any S al xs c o.name o.pass W (hRx W e) hn hp).mono fun e' w' hr => ?_
    obtain ⟨a, c', q1, q2, q3⟩ := hr
    refine ⟨_, a, c', _, q1, q2, rfl, by simp [playR, k], q3, xs, rfl, (hRx W e).lk.ext q2, (hRx W e).ok, ?_⟩
    have : playS S o = S := by simp [playS, k]
    refine ⟨by rw [this]; exact hR.ch, Grow.same _ _ _⟩
  · refine (rrel_any S al xs c o.name o.pass o.other o.text o.num W (hRx W e) hn hp hot htx ho.n0 ho.n1).mono fun e' w' hr => ?_
    obtain ⟨N, a, n, c', h1, h2, h3⟩ := RetVE.q (S := S) (S' := S) (o := o) (r := ⟨0, ⟨#[]⟩, [], relE S o.name o.pass o.num o.other o.text⟩) hr (by simp [playS, k]) (by simp [playR, k]) rfl
    exact ⟨N, a, n, c', _, h1, h2, h3⟩
  · refine (rbor_any S al xs c o.name o.pass o.other o.text o.num W (hRx W e) hn hp htx).mono fun e' w' hr => ?_
    exact ⟨_, _, hr.1, hr.2, (hRx W e).q hr.2 (by simp [playS, k]) (by simp [playR, k]) rfl⟩
  · have hk : ∀ j : Int, 1 ≤ j → j ≤ 8 → ¬ o.kind = j := k
    exact (hRx W e).q (Ext.refl _) (by simp [playS, hk]) (by simp [playR, hk]) rfl
  · obtain ⟨r, la, lc, N, a, n, c', W, w'', rfl, h1, h2, h3, ⟨rfl, rfl, h4, ys, rfl, h5, h6, h7, h10⟩, h8, h9⟩ := h
    refine ⟨a, c', ys, la, lc, rfl, ⟨h9.os.trans (h3.os.trans h1.os), h9.tape.trans (h3.tape.trans h1.tape), h9.output.trans (h3.output.trans h1.output), Nat.le_trans h1.size (Nat.le_trans h3.size h9.size), fun k q => ?_⟩, ⟨h5.offR h8 h9, h6, h7, hR.good.play o⟩, OwnE.ents (h9.own h4 (Nat.le_refl _)), h10.base h1⟩
    have hk : k < W.heap.size := by omega
    rw [h9.block k (Nat.lt_of_lt_of_le hk h3.size) (.inl q), Below.block h3 k hk, Below.block h1 k q]
end Go.Proofs.Ytlahejakcgoheaa
