/-
  Base words of the reference: rows beside a block without bytes; a call whose vault is stored last; what the parts tell of a good vault.
-/
import Derived.Test.YtlahejakcgoheaaRQ
set_option linter.unusedVariables false
set_option linter.unusedSimpArgs false
namespace Go.Proofs.Ytlahejakcgoheaa
open Go.RowKit
/-- No cell of a block is a byte. -/
def NoU8 (w : World) (X : Nat) : Prop := ∀ (i : Nat) (z : Int), w.cell? ⟨X, i, none⟩ ≠ some (.int .u8 z)
theorem cell_off {w w' : World} {X : Nat} (hk : ∀ k, k ≠ X → w'.heap[k]? = w.heap[k]?) {p : Addr} (hp : p.block ≠ X) : w'.cell? p = w.cell? p := by
  unfold World.cell?; rw [hk _ hp]
theorem Byts.off {w w' : World} {X : Nat} {a : Option Addr} {xs : List UInt8} (h : Byts w a xs) (hX : NoU8 w X) (hk : ∀ k, k ≠ X → w'.heap[k]? = w.heap[k]?) : Byts w' a xs := by
  rcases h with h | ⟨b, o, h1, h2⟩
  · exact .inl h
  · refine .inr ⟨b, o, h1, fun i hi => ?_⟩
    have hc := h2 i hi
    rw [cell_off hk (by rintro rfl; exact hX _ _ hc)]
    exact hc
theorem Links.off {w w' : World} {X : Nat} {a : Option Addr} {xs : List Lv} (h : Links w a xs) (hX : NoU8 w X) (hk : ∀ k, k ≠ X → w'.heap[k]? = w.heap[k]?) : Links w' a xs := by
  refine ⟨?_, fun i hi => (h.2 i hi).off hX hk⟩
  rcases h.1 with h | ⟨b, o, h1, h2⟩
  · exact .inl h
  · refine .inr ⟨b, o, h1, fun i hi => ?_⟩
    have hc := h2 i hi
    have hb : b ≠ X := by rintro rfl; exact hX _ _ hc.1
    obtain ⟨c0, c1, c2, c3, c4, c5, c6, c7, c8, c9⟩ := hc
    have e := fun j => cell_off hk (p := ⟨b, j, none⟩) hb
    exact ⟨(e _).trans c0, (e _).trans c1, (e _).trans c2, (e _).trans c3, (e _).trans c4, (e _).trans c5, (e _).trans c6, (e _).trans c7, (e _).trans c8, (e _).trans c9⟩
theorem no8_40 {w : World} {X : Nat} {p : Bool} {a : Option Addr} {n c : Nat} {fz : Nat × Nat} (h : w.heap[X]? = some (.cells #[.bool p, .slice a n c] 40 fz)) : NoU8 w X := by
  intro i z hc
  simp only [World.cell?, h, Option.isSome_none, Bool.false_eq_true, if_false] at hc
  match i, hc with
  | 0, hc => cases hc
  | 1, hc => cases hc
  | (i + 2), hc => simp at hc
theorem set2_off (w : World) (X : Nat) (u v : Value) : ∀ k, k ≠ X → ((w.setCell ⟨X, 0, none⟩ u).setCell ⟨X, 1, none⟩ v).heap[k]? = w.heap[k]? := fun k q => (heap_set_ne _ q).trans (heap_set_ne _ q)
theorem set2_blk {w : World} {X : Nat} {u v u' v' : Value} {T : TypeId} {fz : Nat × Nat} (h : w.heap[X]? = some (.cells #[u, v] T fz)) : ((w.setCell ⟨X, 0, none⟩ u').setCell ⟨X, 1, none⟩ v').heap[X]? = some (.cells #[u', v'] T fz) := by
  have := block_set (block_set h 0 u') 1 v'
  simpa using this
theorem set2_ext {w0 w : World} (h : Ext w0 w) {X : Nat} (hX : w0.heap.size ≤ X) (u v : Value) : Ext w0 ((w.setCell ⟨X, 0, none⟩ u).setCell ⟨X, 1, none⟩ v) := (h.set (p := ⟨X, 0, none⟩) hX _).set (p := ⟨X, 1, none⟩) hX _
/-- What holds between the operations of a region whose call makes a vault that is stored last. -/
structure JS (w0 wz : World) (vb xb : Nat) (V : Obj) (L : List Lk) (G : Option Addr → List Lv → Prop) (lc lst : Bool) (vc : Value) : Prop where
  x : Ext w0 wz
  b : w0.heap.size ≤ xb ∧ vb ≠ xb
  bv : wz.heap[vb]? = some V
  bx : lst = false → wz.heap[xb]? = some (.cells #[.bool false, .slice none 0 0] 40 (0, 0))
  ac : lc = true → ∃ a' c' ys, vc = rv false a' ys.length c' ∧ Links wz a' ys ∧ LksOk ys ∧ lks ys = L ∧ G a' ys ∧ (lst = true → wz.heap[xb]? = some (.cells #[.bool false, .slice a' ys.length c'] 40 (0, 0)))
  es : lst = true → lc = true
section
variable {w0 w : World} {vb xb : Nat} {V : Obj} {L : List Lk} {G : Option Addr → List Lv → Prop} {lc lst : Bool} {vc : Value}
theorem JS.start (h : Ext w0 w) (h1 : w0.heap.size ≤ xb) (h2 : vb ≠ xb) (h3 : w.heap[vb]? = some V) (h4 : w.heap[xb]? = some (.cells #[.bool false, .slice none 0 0] 40 (0, 0))) (u : Value) : JS w0 w vb xb V L G false false u :=
  ⟨h, ⟨h1, h2⟩, h3, fun _ => h4, fun e => (by cases e), fun e => (by cases e)⟩
theorem JS.any {u : Value} (h : JS w0 w vb xb V L G false false vc) : JS w0 w vb xb V L G false false u := ⟨h.x, h.b, h.bv, h.bx, fun e => (by cases e), fun e => (by cases e)⟩
theorem JS.ext {w' : World} (h : JS w0 w vb xb V L G lc lst vc) (e : Ext w w') : JS w0 w' vb xb V L G lc lst vc := by
  refine ⟨h.x.trans e, h.b, e.block h.bv, fun q => e.block (h.bx q), fun q => ?_, h.es⟩
  obtain ⟨a', c', ys, h1, h2, h3, h4, h6, h5⟩ := h.ac q
  exact ⟨a', c', ys, h1, h2.ext e, h3, h4, h6, fun q => e.block (h5 q)⟩
theorem JS.no8 (h : JS w0 w vb xb V L G lc lst vc) : NoU8 w xb := by
  cases hl : lst with
  | false => exact no8_40 (h.bx hl)
  | true =>
    obtain ⟨a', c', ys, h1, h2, h3, h4, h6, h5⟩ := h.ac (h.es hl)
    exact no8_40 (h5 hl)
theorem JS.call {w' : World} {e : Ending} (h : JS w0 w vb xb V L G false lst vc) (k : RetV L G w e w') : ∃ v, e = .returned v ∧ Ext w w' ∧ JS w0 w' vb xb V L G true lst v := by
  have hs : lst = false := by cases lst with | false => rfl | true => have := h.es rfl; cases this
  subst hs
  obtain ⟨a', c', ys, rfl, h1, h2, h3, h4, h6⟩ := k
  have h' := h.ext h1
  exact ⟨_, rfl, h1, h'.x, h'.b, h'.bv, h'.bx, fun _ => ⟨a', c', ys, rfl, h2, h3, h4, h6, fun e => (by cases e)⟩, fun e => (by cases e)⟩
theorem JS.store (h : JS w0 w vb xb V L G true false vc) : ∃ a' n' c', vc = rv false a' n' c' ∧ w.cell? ⟨xb, 0, none⟩ = some (.bool false) ∧ w.cell? ⟨xb, 1, none⟩ = some (.slice none 0 0) ∧ (∀ i, w.frozen? ⟨xb, i, none⟩ = false) ∧
    JS w0 ((w.setCell ⟨xb, 0, none⟩ (.bool false)).setCell ⟨xb, 1, none⟩ (.slice a' n' c')) vb xb V L G true true vc ∧
    (∀ (a : Option Addr) (bs : List UInt8), Byts w a bs → Byts ((w.setCell ⟨xb, 0, none⟩ (.bool false)).setCell ⟨xb, 1, none⟩ (.slice a' n' c')) a bs) := by
  obtain ⟨a', c', ys, h1, h2, h3, h4, h6, -⟩ := h.ac rfl
  have hb := h.bx rfl
  have h8 := no8_40 hb
  have hk := set2_off w xb (.bool false) (.slice a' ys.length c')
  obtain ⟨z0, z1⟩ := obj_cells2 hb
  refine ⟨a', ys.length, c', h1, z0 w (Ext.refl _), z1 w (Ext.refl _), obj_free hb w (Ext.refl _), ⟨set2_ext h.x h.b.1 _ _, h.b, (hk _ h.b.2).trans h.bv, fun e => (by cases e), fun _ => ⟨a', c', ys, h1, h2.off h8 hk, h3, h4, h6, fun _ => set2_blk hb⟩, fun _ => rfl⟩, fun a bs hx => hx.off h8 hk⟩
end
/-- A good vault as the reference keeps it. -/
structure RvAt (w : World) (S : PV) (a : Option Addr) (xs : List Lv) : Prop where
  lk : Links w a xs
  ok : LksOk xs
  ch : lks xs = S.chain
  good : Good S
section
variable {w : World} {S : PV} {a : Option Addr} {xs : List Lv}
theorem RvAt.ext {w' : World} (h : RvAt w S a xs) (e : Ext w w') : RvAt w' S a xs := ⟨h.lk.ext e, h.ok, h.ch, h.good⟩
theorem RvAt.len (h : RvAt w S a xs) : xs.length ≤ 14420 := by
  have := h.good.inv.short
  rw [← h.ch, lks_len] at this; exact this
theorem RvAt.day (h : RvAt w S a xs) (N : Bool) (c : Nat) (w' : World) (e : Ext w w') : Calls Try.prog 25 #[rv N a xs.length c] w' (Ret (.tuple #[.int .i64 S.day, .int .i64 S.adv]) w') := by
  have := rday_any N a xs c w' (h.lk.ext e) h.ok (by have := h.len; omega)
  rw [h.ch, h.good.said.day, h.good.said.adv] at this; exact this
theorem RvAt.cus (h : RvAt w S a xs) (N : Bool) (c : Nat) (n : ByteArray) (w' : World) (e : Ext w w') : Calls Try.prog 77 #[rv N a xs.length c, .string n] w' (Ret (.tuple #[.int .i64 (cusAt n S.chain), .int .i64 (S.cus.length : Int)]) w') := by
  have := rcus_any N a xs c n w' (h.lk.ext e) (by have := h.len; omega)
  rw [h.ch, h.good.said.cus] at this; exact this
theorem RvAt.ent (h : RvAt w S a xs) (c : Nat) (n p : ByteArray) (hn : n.size ≤ 1000000) (hp : p.size ≤ 1000000) (w' : World) (e : Ext w w') : Calls Try.prog 79 #[rv false a xs.length c, .string n, .string p] w' (Ret (.int .i64 (enterR S n p)) w') := by
  have := rent_any false a xs c n p w' (h.lk.ext e) (by have := h.len; omega) hn hp
  rw [h.ch, h.good.said.rent] at this; exact this
theorem RvAt.cnt (h : RvAt w S a xs) (N : Bool) (c : Nat) (n : ByteArray) (w' : World) (e : Ext w w') : Calls Try.prog 80 #[rv N a xs.length c, .string n] w' (Ret (.int .i64 (recsN S n : Int)) w') := by
  have hr : recsN S n ≤ 1000000 := by
    unfold recsN
    cases hf : S.find n with
    | none => exact Nat.zero_le _
    | some c => have := (h.good.ok.cs c (find_mem hf).1).rl; show c.recs.length ≤ _; omega
  have hq := h.good.nrec n
  have hv := fun num => h.good.said.vers n num
  refine rrec_any N a xs c n (recsN S n) w' (h.lk.ext e) h.ok (by have := h.len; omega) (fun j hj => ?_) ?_ hr
  · rw [h.ch, hv]; exact hq.1 j hj
  · rw [h.ch, hv]; exact hq.2
/-- The versions of a record are returned. -/
def RetR (L : List Lk) (w : World) (e : Ending) (w' : World) : Prop := ∃ la lc ys, e = .returned (.slice la ys.length lc) ∧ Ext w w' ∧ Links w' la ys ∧ LksOk ys ∧ lks ys = L
theorem RvAt.vers (h : RvAt w S a xs) (N : Bool) (c : Nat) (n : ByteArray) (num : Int) (w' : World) (e : Ext w w') : Calls Try.prog 82 #[rv N a xs.length c, .string n, .int .i64 num] w' (RetR (recV S n num) w') := by
  refine (rvers_any N a xs c n num w' (h.lk.ext e) h.ok (by have := h.len; omega)).mono fun e' w2 hr => ?_
  obtain ⟨la, lc, ys, h1, h2, h3⟩ := hr
  obtain ⟨h4, h5⟩ := h2.links
  exact ⟨la, lc, ys, h1, h2.old, h4, h5, by rw [h3, h.ch, h.good.said.vers]⟩
theorem RvAt.gone (h : RvAt w S a xs) (N : Bool) (c : Nat) (la : Option Addr) (ys : List Lv) (lc : Nat) (w' : World) (e : Ext w w') (hy : Links w' la ys) (h0 : 0 < ys.length) : Calls Try.prog 83 #[rv N a xs.length c, .slice la ys.length lc] w' (Ret (.bool (decide (untilR (lks ys) < S.day))) w') := by
  have := rgone_any N a xs c la ys lc w' (h.lk.ext e) h.ok (by have := h.len; omega) hy h0
  rw [h.ch, h.good.said.day] at this
  have e2 : untilR (lks ys) = (lth ys 0).l.un := by
    cases ys with
    | nil => simp at h0
    | cons y ys => rfl
  rw [e2]; exact this
theorem RvAt.shr (h : RvAt w S a xs) (N : Bool) (c : Nat) (fr : ByteArray) (num : Int) (tu : ByteArray) (w' : World) (e : Ext w w') :
    Calls Try.prog 85 #[rv N a xs.length c, .string fr, .int .i64 num, .string tu] w' (fun e w2 => ∃ la lc ys, e = .returned (.tuple #[.int .i64 (madeN S fr), .slice la ys.length lc]) ∧ Ext w' w2 ∧ Links w2 la ys ∧ LksOk ys ∧ lks ys = (shareAt S fr (num, tu)).toList) := by
  refine (rshr_any N a xs c fr num tu w' (h.lk.ext e) h.ok (by have := h.len; omega)).mono fun e' w2 hr => ?_
  obtain ⟨la, lc, ys, h1, h2, h3, h4, h5⟩ := hr
  rw [h.ch, h.good.said.made] at h1
  exact ⟨la, lc, ys, h1, h2, h3, h4, by rw [h5, h.ch, h.good.said.last]⟩
theorem RvAt.put (h : RvAt w S a xs) (N : Bool) (c : Nat) (x : Lv) (w' : World) (e : Ext w w') (hx : LkOk x.l) (hsm : SmL x.l) (hb : Byts w' x.ba x.l.bo) (hf : ∀ ad, x.ba = some ad → w.heap.size ≤ ad.block) : Calls Try.prog 78 #[rv N a xs.length c, lval x] w' (RetV (S.chain ++ [chained S x.l]) (Grow w a xs) w') := by
  refine (rwith_any N a xs c x w' (h.lk.ext e) h.ok (by have := h.len; omega) hx hsm hb).mono fun e' w2 hr => ?_
  obtain ⟨a', c', ys, h1, h2, h3, h4, h5, h6, h7⟩ := hr
  refine ⟨a', c', ys, h1, h2, h3, h4, by rw [h5, h.ch]; rfl, .inr ⟨fun ad hd => Nat.le_trans e.size (h6 ad hd), fun y hy => ?_⟩⟩
  rcases h7 y hy with q | q
  · exact .inl q
  · exact .inr fun ad hd => hf ad (q ▸ hd)
theorem Grow.same (w : World) (a : Option Addr) (xs : List Lv) : Grow w a xs a xs := .inl ⟨rfl, rfl⟩
end
/-- A vault and a value are returned. -/
def RetVE (L : List Lk) (G : Option Addr → List Lv → Prop) (v : Value) (w : World) (e : Ending) (w' : World) : Prop := ∃ a c ys, e = .returned (.tuple #[rv false a ys.length c, v]) ∧ Ext w w' ∧ Links w' a ys ∧ LksOk ys ∧ lks ys = L ∧ G a ys
def RetVEE (L : List Lk) (G : Option Addr → List Lv → Prop) (u v : Value) (w : World) (e : Ending) (w' : World) : Prop := ∃ a c ys, e = .returned (.tuple #[rv false a ys.length c, u, v]) ∧ Ext w w' ∧ Links w' a ys ∧ LksOk ys ∧ lks ys = L ∧ G a ys
/-- A Body lies in a block made since. -/
def FrB (w : World) (ba : Option Addr) : Prop := ∀ ad, ba = some ad → w.heap.size ≤ ad.block
theorem FrB.own {w W w' : World} {ba : Option Addr} {n c : Nat} {xs : List UInt8} (h : OwnB w' W.heap.size (.slice ba n c) xs) (e : Ext w W) : FrB w ba := fun ad hd => by
  subst hd
  exact Nat.le_trans e.size (own_addr h)
end Go.Proofs.Ytlahejakcgoheaa
