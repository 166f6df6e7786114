/-
  Texts merged: B6, M1.
-/
import Derived.Test.YtlahejakcgoheaaWM
import Derived.Test.YtlahejakcgoheaaPL
section
/-
  Base words: a vault in memory.
-/
set_option linter.unusedVariables false
set_option linter.unusedSimpArgs false
namespace Go.Proofs.Ytlahejakcgoheaa
open Go.RowKit
/-- A link and its block. -/
structure Cl where
  b : Nat
  x : Lv
abbrev Cl.l (y : Cl) : Lk := y.x.l
/-- A record: a slice of links. -/
structure Rv where
  a : Option Addr
  c : Nat
  ls : List Cl
/-- A customer, and where it lies. -/
structure Cw where
  cb : Nat
  name : ByteArray
  proof : Nat
  ra : Option Addr
  rc : Nat
  recs : List Rv
  made : Int
  sb : Nat
  shares : List ((Int × ByteArray) × Cl)
/-- A vault, and where it lies. -/
structure Vw where
  vb : Nat
  mb : Nat
  cus : List Cw
  day : Int
  adv : Int
  ca : Option Addr
  cc : Nat
  chain : List Cl
def Rv.p (r : Rv) : List Lk := r.ls.map Cl.l
def Cw.p (c : Cw) : PC := ⟨c.name, c.proof, c.recs.map Rv.p, c.made, c.shares.map fun q => (q.1, q.2.l)⟩
def Vw.p (V : Vw) : PV := ⟨V.cus.map Cw.p, V.day, V.adv, V.chain.map Cl.l⟩
abbrev ptr (b : Nat) : Value := .pointer (some ⟨b, 0, none⟩)
def Rv.val (r : Rv) : Value := .slice r.a r.ls.length r.c
def rowP (ls : List Cl) : List Value := ls.map fun l => ptr l.b
def rowR (rs : List Rv) : List Value := rs.map Rv.val
def cusM (cs : List Cw) : List (Value × Value) := cs.map fun c => (.string c.name, ptr c.cb)
def shM (ss : List ((Int × ByteArray) × Cl)) : List (Value × Value) := ss.map fun q => (.agg #[.int .i64 q.1.1, .string q.1.2], ptr q.2.b)
abbrev ccells (c : Cw) : Array Value := #[.string c.name, .int .u64 (c.proof : Int), .slice c.ra c.recs.length c.rc, .int .i64 c.made, .map (some c.sb)]
abbrev vcells (V : Vw) : Array Value := #[.map (some V.mb), .int .i64 V.day, .int .i64 V.adv, .slice V.ca V.chain.length V.cc]
/-- The block of an address. -/
def ob (a : Option Addr) : List Nat := (a.map (·.block)).toList
theorem ob_some (d : Addr) : ob (some d) = [d.block] := rfl
def cfoot (c : Cw) : List Nat := c.cb :: c.sb :: (ob c.ra ++ c.recs.flatMap fun r => ob r.a)
def foot (V : Vw) : List Nat := V.vb :: V.mb :: (ob V.ca ++ V.cus.flatMap cfoot)
structure CwAt (w : World) (c : Cw) : Prop where
  blk : w.heap[c.cb]? = some (.cells (ccells c) 135 (0, 0))
  row : w.ownsRow 0 137 1 (.slice c.ra c.recs.length c.rc) c.recs.length (rowR c.recs)
  recs : ∀ r ∈ c.recs, w.ownsRow 0 74 1 r.val r.ls.length (rowP r.ls)
  map : MapAt 142 w c.sb (shM c.shares)
  nm : c.name.size ≤ maxLen
  pr : c.proof < 18446744073709551616
/-- The links of L lie in memory, and none of them lies in these blocks. -/
def LinksIn (w : World) (L : List Cl) (F : List Nat) : Prop := ∀ y ∈ L, LinkAt w y.b y.x ∧ LkOk y.l ∧ y.b ∉ F ∧ (∀ k ∈ ob y.x.ba, k ∉ F ∧ k < w.heap.size) ∧ y.l.bo.length ≤ y.x.bc
structure VwAt (w : World) (V : Vw) (L : List Cl) : Prop where
  blk : w.heap[V.vb]? = some (.cells (vcells V) 106 (0, 0))
  map : MapAt 9 w V.mb (cusM V.cus)
  cus : ∀ c ∈ V.cus, CwAt w c
  row : w.ownsRow 0 74 1 (.slice V.ca V.chain.length V.cc) V.chain.length (rowP V.chain)
  links : LinksIn w L (foot V)
  chain : ∀ y ∈ V.chain, y ∈ L
  recs : ∀ c ∈ V.cus, ∀ r ∈ c.recs, ∀ y ∈ r.ls, y ∈ L
  shares : ∀ c ∈ V.cus, ∀ q ∈ c.shares, q.2 ∈ L
  nd : (foot V).Nodup
/-! ### what stays -/
theorem own_of_block {w w' : World} {B e sz : Nat} {v : Value} {n : Nat} {xs : List Value} (h : w.ownsRow B e sz v n xs) (hk : ∀ k, v.ownBlock = some k → w'.heap[k]? = w.heap[k]?) : w'.ownsRow B e sz v n xs := by
  obtain ⟨h1, h2⟩ := h
  refine ⟨h1, ?_⟩
  rcases h2 with h2 | ⟨g, cap, cur, hv, hg, hh, r⟩
  · exact .inl h2
  · exact .inr ⟨g, cap, cur, hv, hg, (hk g (by rw [hv]; rfl)).trans hh, r⟩
theorem own_slice_block (a : Option Addr) (n c : Nat) : ∀ k, (Value.slice a n c).ownBlock = some k → k ∈ ob a := by
  intro k hk
  cases a with
  | none => simp [Value.ownBlock] at hk
  | some d => simp [Value.ownBlock] at hk; simp [ob, hk]
theorem Byts.of_block {w w' : World} {a : Option Addr} {xs : List UInt8} (h : Byts w a xs) (hk : ∀ k ∈ ob a, w'.heap[k]? = w.heap[k]?) : Byts w' a xs := by
  rcases h with h | ⟨b, o, rfl, h2⟩
  · exact .inl h
  · refine .inr ⟨b, o, rfl, fun i hi => ?_⟩
    rw [World.cell?_of_block (w := w) (hk b (by simp [ob]))]
    exact h2 i hi
theorem CwAt.frame {w w' : World} {c : Cw} (h : CwAt w c) (hk : ∀ k ∈ cfoot c, w'.heap[k]? = w.heap[k]?) : CwAt w' c where
  blk := (hk _ (by simp [cfoot])).trans h.blk
  row := own_of_block h.row fun k q => hk k (by have := own_slice_block _ _ _ k q; simp [cfoot, this])
  recs := fun r hr => own_of_block (h.recs r hr) fun k q => hk k (by
    have := own_slice_block r.a r.ls.length r.c k q
    simp only [cfoot, List.mem_cons, List.mem_append, List.mem_flatMap]
    exact .inr (.inr (.inr ⟨r, hr, this⟩)))
  map := h.map.of_block (hk _ (by simp [cfoot]))
  nm := h.nm
  pr := h.pr
theorem LinkAt.frame {w w' : World} {b : Nat} {x : Lv} (h : LinkAt w b x) (hb : w'.heap[b]? = w.heap[b]?) (hk : ∀ k ∈ ob x.ba, w'.heap[k]? = w.heap[k]?) : LinkAt w' b x :=
  ⟨hb.trans h.1, h.2.of_block hk⟩
theorem own_lt {w : World} {B e sz : Nat} {a : Option Addr} {n c : Nat} {m : Nat} {xs : List Value} (h : w.ownsRow B e sz (.slice a n c) m xs) : ∀ k ∈ ob a, k < w.heap.size := by
  intro k hk
  cases a with
  | none => simp [ob] at hk
  | some d =>
    simp [ob] at hk; subst hk
    exact (h.lt d.block rfl).2
theorem CwAt.lt {w : World} {c : Cw} (h : CwAt w c) : ∀ k ∈ cfoot c, k < w.heap.size := by
  intro k hk
  simp only [cfoot, List.mem_cons, List.mem_append, List.mem_flatMap] at hk
  rcases hk with rfl | rfl | hk | ⟨r, hr, hk⟩
  · exact lt_of_block h.blk
  · exact h.map.lt
  · exact own_lt h.row k hk
  · exact own_lt (h.recs r hr) k hk
theorem VwAt.lt {w : World} {V : Vw} {L : List Cl} (h : VwAt w V L) : ∀ k ∈ foot V, k < w.heap.size := by
  intro k hk
  simp only [foot, List.mem_cons, List.mem_append, List.mem_flatMap] at hk
  rcases hk with rfl | rfl | hk | ⟨c, hc, hk⟩
  · exact lt_of_block h.blk
  · exact h.map.lt
  · exact own_lt h.row k hk
  · exact (h.cus c hc).lt k hk
theorem LinksIn.lt {w : World} {L : List Cl} {F : List Nat} (h : LinksIn w L F) : ∀ y ∈ L, y.b < w.heap.size := fun y hy => lt_of_block (h y hy).1.1
/-- The links stay where the blocks outside F stay. -/
theorem LinksIn.frame {w w' : World} {L : List Cl} {F F' : List Nat} (h : LinksIn w L F) (hk : ∀ k, k < w.heap.size → k ∉ F → w'.heap[k]? = w.heap[k]?) (hF : ∀ k ∈ F', k ∈ F ∨ w.heap.size ≤ k) (hs : w.heap.size ≤ w'.heap.size) : LinksIn w' L F' := by
  intro y hy
  obtain ⟨h1, h2, h3, h4, h5⟩ := h y hy
  have hb := lt_of_block h1.1
  refine ⟨h1.frame (hk _ hb h3) (fun k q => hk k (h4 k q).2 (h4 k q).1), h2, fun q => ?_, fun k q => ⟨fun q2 => ?_, Nat.lt_of_lt_of_le (h4 k q).2 hs⟩, h5⟩
  · rcases hF _ q with q | q
    · exact h3 q
    · omega
  · rcases hF _ q2 with q2 | q2
    · exact (h4 k q).1 q2
    · have := (h4 k q).2; omega
/-- Blocks of the vault, and of its links. -/
def lfoot (y : Cl) : List Nat := y.b :: ob y.x.ba
theorem VwAt.frame {w w' : World} {V : Vw} {L : List Cl} (h : VwAt w V L) (hk : ∀ k ∈ foot V, w'.heap[k]? = w.heap[k]?) (hl : ∀ y ∈ L, ∀ k ∈ lfoot y, w'.heap[k]? = w.heap[k]?) (hs : w.heap.size ≤ w'.heap.size) : VwAt w' V L where
  blk := (hk _ (by simp [foot])).trans h.blk
  map := h.map.of_block (hk _ (by simp [foot]))
  cus := fun c hc => (h.cus c hc).frame fun k q => hk k (by simp only [foot, List.mem_cons, List.mem_append, List.mem_flatMap]; exact .inr (.inr (.inr ⟨c, hc, q⟩)))
  row := own_of_block h.row fun k q => hk k (by have := own_slice_block _ _ _ k q; simp [foot, this])
  links := fun y hy => by
    obtain ⟨h1, h2, h3, h4, h5⟩ := h.links y hy
    exact ⟨h1.frame (hl y hy _ (by simp [lfoot])) (fun k q => hl y hy k (by simp [lfoot, q])), h2, h3, fun k q => ⟨(h4 k q).1, Nat.lt_of_lt_of_le (h4 k q).2 hs⟩, h5⟩
  chain := h.chain
  recs := h.recs
  shares := h.shares
  nd := h.nd
theorem VwAt.ext {w w' : World} {V : Vw} {L : List Cl} (h : VwAt w V L) (e : Ext w w') : VwAt w' V L :=
  h.frame (fun k q => Below.block e k (h.lt k q)) (fun y hy k q => by
    simp only [lfoot, List.mem_cons] at q
    rcases q with rfl | q
    · exact Below.block e _ (h.links.lt y hy)
    · exact Below.block e _ ((h.links y hy).2.2.2.1 k q).2) e.size
/-- What a call of a vault's leaves: all that was there, but for the vault's own blocks. -/
structure Upd (F : List Nat) (w w' : World) : Prop where
  os : w'.os = w.os
  tape : w'.tape = w.tape
  output : w'.output = w.output
  size : w.heap.size ≤ w'.heap.size
  block : ∀ k, k < w.heap.size → k ∉ F → w'.heap[k]? = w.heap[k]?
theorem Ext.upd {F : List Nat} {w w' : World} (h : Ext w w') : Upd F w w' := ⟨h.os, h.tape, h.output, h.size, fun k hk _ => Below.block h k hk⟩
theorem Upd.trans {F F' : List Nat} {a b c : World} (h : Upd F a b) (k : Upd F' b c) (hF : ∀ x ∈ F', x ∈ F ∨ a.heap.size ≤ x) : Upd F a c :=
  ⟨k.os.trans h.os, k.tape.trans h.tape, k.output.trans h.output, Nat.le_trans h.size k.size, fun i hi hx => (k.block i (Nat.lt_of_lt_of_le hi h.size) (fun q => by
    rcases hF i q with q | q
    · exact hx q
    · omega)).trans (h.block i hi hx)⟩
theorem Upd.refl (F : List Nat) (w : World) : Upd F w w := (Ext.refl w).upd
theorem Upd.set {F : List Nat} {w W : World} (h : Upd F w W) {p : Addr} (hp : p.block ∈ F ∨ w.heap.size ≤ p.block) (u : Value) : Upd F w (W.setCell p u) :=
  ⟨h.os, h.tape, h.output, by simpa [World.setCell] using h.size, fun k hk hx => (Below.heap_setCell _ _ _ _ (fun e => by
    rcases hp with q | q
    · exact hx (e ▸ q)
    · omega)).trans (h.block k hk hx)⟩
theorem Upd.alloc {F : List Nat} {w W : World} (h : Upd F w W) (o : Obj) : Upd F w (W.alloc o) := h.trans (F' := []) (((Ext.refl W).alloc o).upd) (by simp)
theorem Upd.drew {F : List Nat} {w W : World} (h : Upd F w W) : Upd F w W.drew := h.trans (F' := []) (((Ext.refl W).drew).upd) (by simp)
theorem Upd.grown {F : List Nat} {w W W' : World} {row : Option Nat} (h : Upd F w W) (hg : W.grownBy W' row) (hr : ∀ k, row = some k → k ∈ F ∨ w.heap.size ≤ k) : Upd F w W' :=
  h.trans (F' := row.toList) ⟨hg.os, hg.tape, hg.output, hg.size, fun k hk q => hg.block k hk (fun e => q (by rw [← e]; simp))⟩ (fun x hx => hr x (by simpa using hx))
theorem Upd.turned {F : List Nat} {w W W' : World} {b : Nat} (h : Upd F w W) (hg : Turned W W' b) (hr : b ∈ F ∨ w.heap.size ≤ b) : Upd F w W' :=
  h.trans (F' := [b]) ⟨hg.os, hg.tape, hg.output, Nat.le_of_eq hg.size.symm, fun k _ q => hg.block k (by simpa using q)⟩ (fun x hx => by simp at hx; subst hx; exact hr)
end Go.Proofs.Ytlahejakcgoheaa
end
section
/-
  Walks: last, until, find, enter, Day, New.
-/
set_option linter.unusedVariables false
set_option linter.unusedSimpArgs false
namespace Go.Proofs.Ytlahejakcgoheaa
open Go.RowKit
theorem own_at {w : World} {B e : Nat} {a : Option Addr} {n c : Nat} {xs : List Value} (h : w.ownsRow B e 1 (.slice a n c) n xs) (i : Nat) (hi : i < n) : ∃ g v, a = some ⟨g, 0, none⟩ ∧ xs[i]? = some v ∧ ∀ W, Ext w W → W.cell? ⟨g, i, none⟩ = some v := by
  rcases h.2 with ⟨hv, hn⟩ | ⟨g, cap, cur, hv, hg, hh, hnc, hcm, hs, ht⟩
  · omega
  · simp only [Value.slice.injEq] at hv
    obtain ⟨rfl, _, rfl⟩ := hv
    have hl := h.1
    have hi2 : i < xs.length := by omega
    refine ⟨g, xs[i], rfl, List.getElem?_eq_getElem hi2, fun W hW => hW.cell ?_⟩
    rw [h.cellAt i (by omega)]
    exact List.getElem?_eq_getElem hi2
theorem row_at {w : World} {a : Option Addr} {c : Nat} {ls : List Cl} (h : w.ownsRow 0 74 1 (.slice a ls.length c) ls.length (rowP ls)) (i : Nat) (hi : i < ls.length) : ∃ g, a = some ⟨g, 0, none⟩ ∧ ∀ W, Ext w W → W.cell? ⟨g, i, none⟩ = some (ptr ls[i].b) := by
  obtain ⟨g, v, h1, h2, h3⟩ := own_at h i hi
  refine ⟨g, h1, fun W hW => ?_⟩
  rw [h3 W hW, ← h2]; simp [rowP, hi]
/-- The Chain of the last link. -/
def lastN (ls : List Lk) : Nat := match ls.getLast? with | none => 7 | some l => l.ch
theorem lastN_nil : lastN [] = 7 := rfl
theorem lastN_eq (ls : List Cl) (i : Nat) (h : ls.length = i + 1) : lastN (ls.map Cl.l) = (ls[i]'(by omega)).l.ch := by
  have : (ls.map Cl.l).getLast? = some ((ls[i]'(by omega)).l) := by
    rw [List.getLast?_eq_getElem?, List.getElem?_map, show (ls.map Cl.l).length - 1 = i by rw [List.length_map]; omega, List.getElem?_eq_getElem (by omega)]; rfl
  rw [lastN, this]
set_option maxRecDepth 100000 in
set_option maxHeartbeats 1000000 in
theorem last_any (V : Vw) (L : List Cl) (w : World) (h : VwAt w V L) (hn : V.chain.length ≤ 1000000) : Calls Try.prog 90 #[ptr V.vb] w (Ret (u64 (lastN (V.chain.map Cl.l))) w) := by
  obtain ⟨c0, c1, c2, c3⟩ := obj_cells4 h.blk
  rcases Nat.eq_zero_or_pos V.chain.length with h0 | h0
  · have hq : Hid (lastN (V.chain.map Cl.l) = 7) := by rw [List.length_eq_zero_iff.1 h0]; rfl
    have hz : ((V.chain.length : Int) == 0) = true := by simp [h0]
    have H0 := Lib.hid h0
    clear h0 h
    replace c3 := c3 w (Ext.refl _)
    go_enter Try.func90, Try.ntmps90
    go_wp2_with (fail)
    go_ret
    exact ⟨by rw [hq.out]; rfl, Ext.refl _⟩
  · obtain ⟨i, hi⟩ : ∃ i, V.chain.length = i + 1 := ⟨V.chain.length - 1, by omega⟩
    have hz : ((V.chain.length : Int) == 0) = false := by rw [beq_eq_false_iff_ne]; omega
    obtain ⟨g, hg, hr⟩ := row_at h.row i (by omega)
    obtain ⟨hl, -⟩ := h.links _ (h.chain _ (List.getElem_mem (show i < V.chain.length by omega)))
    obtain ⟨d0, d1, d2, d3, d4, d5, d6, d7, d8, d9⟩ := obj_cells10 hl.1
    have hq := Lib.hid (lastN_eq V.chain i hi)
    obtain ⟨y, hy⟩ : ∃ y, y = V.chain[i] := ⟨_, rfl⟩
    rw [← hy] at hr hq d9
    rw [hi] at hz c3
    rw [hg] at c3
    have hi1 : i + 1 ≤ 1000000 := by omega
    clear d0 d1 d2 d3 d4 d5 d6 d7 d8 c0 c1 c2 hl h h0 hy hg hi hn
    have hr0 := Ext.refl w
    have hi3 : (i : Int) < (i : Int) + 1 := by omega
    have hii : (0 : Int) ≤ (i : Int) := by omega
    go_enter Try.func90, Try.ntmps90
    go_wp2_with (fail)
    refine wp_region_ext (by kernel_rfl) (by kernel_rfl) hr0 ?_
    repeat (first | go_big_quiet_step ((fail)) | quiet_step ((fail)))
    refine wpQuiet_nil ?_
    rintro _ ⟨nq, rfl⟩
    go_wp2_with (fail)
    go_ret
    exact ⟨by rw [hq.out]; rfl, nq.ok⟩
theorem untilR_eq (r : Rv) (h : 0 < r.ls.length) : untilR r.p = (r.ls[0]).l.un := by
  obtain ⟨a, c, ls⟩ := r
  cases ls with
  | nil => simp at h
  | cons y ys => rfl
set_option maxHeartbeats 1000000 in
theorem until_any (r : Rv) (F : List Nat) (L : List Cl) (w : World) (hr : w.ownsRow 0 74 1 r.val r.ls.length (rowP r.ls)) (hl : LinksIn w L F) (hs : ∀ y ∈ r.ls, y ∈ L) (hn : 0 < r.ls.length) : Calls Try.prog 71 #[r.val] w (Ret (.int .i64 (untilR r.p)) w) := by
  unfold Rv.val at hr
  obtain ⟨g, hg, hc⟩ := row_at hr 0 hn
  obtain ⟨hl, -⟩ := hl _ (hs _ (List.getElem_mem hn))
  obtain ⟨d0, d1, d2, d3, d4, d5, d6, d7, d8, d9⟩ := obj_cells10 hl.1
  have hq := Lib.hid (untilR_eq r hn)
  obtain ⟨y, hy⟩ : ∃ y, y = r.ls[0] := ⟨_, rfl⟩
  rw [← hy] at hc hq d6
  replace hc := hc w (Ext.refl _)
  replace d6 := d6 w (Ext.refl _)
  unfold Rv.val
  rw [hg]
  have hi : (0 : Int) < (r.ls.length : Int) := by omega
  clear d0 d1 d2 d3 d4 d5 d7 d8 d9 hl hr hs hy hg
  go_enter Try.func71, Try.ntmps71
  go_wp2_with (fail)
  go_ret
  exact ⟨by rw [hq.out]; rfl, Ext.refl _⟩
/-- What 'find' gives back. -/
def findV (c : Cw) (number day : Int) : Value :=
  if number < 1 ∨ (c.recs.length : Int) < number then .tuple #[.slice none 0 0, .int .i64 3]
  else match c.recs[(number - 1).toNat]? with
    | none => .tuple #[.slice none 0 0, .int .i64 3]
    | some r => if untilR r.p < day then .tuple #[.slice none 0 0, .int .i64 111] else .tuple #[r.val, .int .i64 0]
set_option maxRecDepth 100000 in
set_option maxHeartbeats 1000000 in
theorem find_any (c : Cw) (F : List Nat) (L : List Cl) (number day : Int) (w : World) (h : CwAt w c) (hl : LinksIn w L F) (hs : ∀ r ∈ c.recs, ∀ y ∈ r.ls, y ∈ L) (hne : ∀ r ∈ c.recs, 0 < r.ls.length) (hrl : c.recs.length ≤ 1000000)
    (n0 : -9223372036854775808 ≤ number) (n1 : number ≤ 9223372036854775807) : Calls Try.prog 69 #[ptr c.cb, .int .i64 number, .int .i64 day] w (Ret (findV c number day) w) := by
  obtain ⟨c0, c1, c2, c3, c4⟩ := obj_cells5 h.blk
  replace c2 := c2 w (Ext.refl _)
  clear c0 c1 c3 c4
  cases T1 : decide (number < 1)
  · cases T2 : decide ((c.recs.length : Int) < number)
    · have h1 : ¬ number < 1 := by simpa using T1
      have h2 : ¬ (c.recs.length : Int) < number := by simpa using T2
      obtain ⟨i, hi⟩ : ∃ i : Nat, number = (i : Int) + 1 := ⟨(number - 1).toNat, by omega⟩
      subst hi
      have hil : i < c.recs.length := by omega
      obtain ⟨g, v, hg, hv, hc⟩ := own_at h.row i hil
      obtain ⟨r, hr⟩ : ∃ r, r = c.recs[i] := ⟨_, rfl⟩
      have hrm : r ∈ c.recs := by rw [hr]; exact List.getElem_mem _
      have hvr : v = r.val := by
        have : (rowR c.recs)[i]? = some r.val := by simp [rowR, hil, hr]
        rw [this] at hv; simpa using hv.symm
      subst hvr
      have hu := fun W (e : Ext w W) => until_any r F L W (own_of_block (h.recs r hrm) fun k q => Below.block e k ((h.recs r hrm).lt k q).2) (hl.frame (fun k hk _ => Below.block e k hk) (fun k hk => .inl hk) e.size) (hs r hrm) (hne r hrm)
      have HU := Lib.hid hu
      replace hc := hc w (Ext.refl _)
      have hq : findV c ((i : Int) + 1) day = if untilR r.p < day then .tuple #[.slice none 0 0, .int .i64 111] else .tuple #[r.val, .int .i64 0] := by
        unfold findV
        rw [if_neg (by omega), show ((i : Int) + 1 - 1).toNat = i by omega, List.getElem?_eq_getElem hil, ← hr]
      have HQ := Lib.hid hq
      have hi0 : (0 : Int) ≤ (i : Int) := by omega
      have hi1 : (i : Int) < (c.recs.length : Int) := by omega
      rw [hg] at c2
      unfold Rv.val at hc HU
      clear hq hu h hl hs hne hr hrm h1 h2 hv hg n0 n1
      go_enter Try.func69, Try.ntmps69
      go_wp2_with (fail)
      (with_reducible refine (HU.out _ (Ext.refl _)).mono ?_); rintro e w1 ⟨rfl, he⟩
      cases T3 : decide (untilR r.p < day)
      · have hq : Hid (findV c ((i : Int) + 1) day = .tuple #[r.val, .int .i64 0]) := by
          rw [Hid, HQ.out, if_neg (by simpa using T3)]
        go_wp2_with (fail)
        go_ret2
        exact ⟨by rw [hq.out]; rfl, he⟩
      · have hq : Hid (findV c ((i : Int) + 1) day = .tuple #[.slice none 0 0, .int .i64 111]) := by
          rw [Hid, HQ.out, if_pos (by simpa using T3)]
        go_wp2_with (fail)
        go_ret2
        exact ⟨by rw [hq.out]; rfl, he⟩
    · have hq : Hid (findV c number day = .tuple #[.slice none 0 0, .int .i64 3]) := by
        have : (c.recs.length : Int) < number := by simpa using T2
        simp [Hid, findV, this]
      clear h hl hs hne
      go_enter Try.func69, Try.ntmps69
      go_wp2_with (fail)
      go_ret2
      exact ⟨by rw [hq.out]; rfl, Ext.refl _⟩
  · have hq : Hid (findV c number day = .tuple #[.slice none 0 0, .int .i64 3]) := by
      have : number < 1 := by simpa using T1
      simp [Hid, findV, this]
    clear h hl hs hne
    go_enter Try.func69, Try.ntmps69
    go_wp2_with (fail)
    go_ret2
    exact ⟨by rw [hq.out]; rfl, Ext.refl _⟩
/-! ### a customer by name -/
def findW (V : Vw) (n : ByteArray) : Option Cw := V.cus.find? fun c => decide (c.name = n)
theorem findW_p (V : Vw) (n : ByteArray) : V.p.find n = (findW V n).map Cw.p := by
  unfold PV.find findW Vw.p
  simp only
  induction V.cus with
  | nil => rfl
  | cons c cs ih =>
    simp only [List.map_cons, List.find?_cons]
    by_cases h : c.name = n
    · simp [Cw.p, h]
    · have : (Cw.p c).name = c.name := rfl
      simp only [this, h, decide_false]
      exact ih
theorem findW_mem {V : Vw} {n : ByteArray} {c : Cw} (h : findW V n = some c) : c ∈ V.cus ∧ c.name = n := by
  unfold findW at h
  exact ⟨List.mem_of_find?_eq_some h, by simpa using List.find?_some h⟩
theorem findW_none {V : Vw} {n : ByteArray} (h : findW V n = none) : ∀ c ∈ V.cus, ¬ c.name = n := by
  unfold findW at h
  intro c hc
  simpa using List.find?_eq_none.1 h c hc
theorem look103_yes {V : Vw} {L : List Cl} {w : World} (h : VwAt w V L) {n : ByteArray} {c : Cw} (hn : n.size ≤ maxLen) (hf : findW V n = some c) : ∀ W, Ext w W → ∀ q, (Instr.lookup 103 (.map (some V.mb)) (.string n) q).run Try.prog W = .ok (if q then .tuple #[ptr c.cb, .bool true] else ptr c.cb) W := by
  intro W e q
  obtain ⟨hc, rfl⟩ := findW_mem hf
  exact (h.map.ext e).look_yes law9 Try.underlying103 (key9 _ hn) (List.mem_map.2 ⟨c, hc, rfl⟩) q
theorem look103_no {V : Vw} {L : List Cl} {w : World} (h : VwAt w V L) {n : ByteArray} (hn : n.size ≤ maxLen) (hf : findW V n = none) : ∀ W, Ext w W → ∀ q, (Instr.lookup 103 (.map (some V.mb)) (.string n) q).run Try.prog W = .ok (if q then .tuple #[.pointer none, .bool false] else .pointer none) W := by
  intro W e q
  refine (h.map.ext e).look_no law9 Try.underlying103 (zero125 W) (key9 _ hn) (fun p hp => ?_) q
  obtain ⟨c, hc, rfl⟩ := List.mem_map.1 hp
  intro e2
  simp only [Value.string.injEq] at e2
  exact findW_none hf c hc e2
/-- What 'enter' gives back. -/
def enterV (V : Vw) (n pass : ByteArray) : Value :=
  match findW V n with
  | none => .tuple #[.pointer none, .int .u64 0, .int .i64 7]
  | some c => if proofN (keyN n pass) = c.proof then .tuple #[ptr c.cb, u64 (keyN n pass), .int .i64 0] else .tuple #[.pointer none, .int .u64 0, .int .i64 110]
set_option maxRecDepth 100000 in
set_option maxHeartbeats 1000000 in
theorem enter_any (V : Vw) (L : List Cl) (n pass : ByteArray) (w : World) (h : VwAt w V L) (hn : n.size ≤ maxLen) (hp : pass.size ≤ maxLen) : Calls Try.prog 67 #[ptr V.vb, .string n, .string pass] w (Ret (enterV V n pass) w) := by
  obtain ⟨c0, c1, c2, c3⟩ := obj_cells4 h.blk
  replace c0 := c0 w (Ext.refl _)
  clear c1 c2 c3
  cases hf : findW V n with
  | none =>
    have hlk := look103_no h hn hf w (Ext.refl _) true
    simp only [if_true] at hlk
    have hq : Hid (enterV V n pass = .tuple #[.pointer none, .int .u64 0, .int .i64 7]) := by simp [Hid, enterV, hf]
    clear h hn hp hf
    go_enter Try.func67, Try.ntmps67
    go_wp2_with (fail)
    go_ret3
    exact ⟨by rw [hq.out]; rfl, Ext.refl _⟩
  | some c =>
    have hlk := look103_yes h hn hf w (Ext.refl _) true
    simp only [if_true] at hlk
    have hk := key_any n pass w hn hp
    have hpr := fun W => proof_any (keyN n pass) W (p61_64 (keyN_lt _ _))
    obtain ⟨hc, -⟩ := findW_mem hf
    obtain ⟨d0, d1, d2, d3, d4⟩ := obj_cells5 (h.cus c hc).blk
    have HK := Lib.hid hk; have HP := Lib.hid hpr
    have HF := Lib.hid hf
    clear h hn hp hf hk hpr hc d0 d2 d3 d4
    go_enter Try.func67, Try.ntmps67
    go_wp2_with (fail)
    (with_reducible refine HK.out.mono ?_); rintro e w1 ⟨rfl, he⟩
    have hr0 := Ext.refl w1
    replace d1 := fun W (q : Ext w1 W) => d1 W (he.trans q)
    go_wp2_with (fail)
    refine wp_region_ext (by kernel_rfl) (by kernel_rfl) hr0 ?_
    repeat (first | go_big_quiet_step (((go_at_call 66; exact Calls.later (HP.out _)))) | quiet_step (((go_at_call 66; exact Calls.later (HP.out _)))))
    refine wpQuiet_nil ?_
    rintro _ ⟨nq, rfl⟩
    have he1 := nq.ok
    cases T : ((proofN (keyN n pass) : Int) != (c.proof : Int))
    · have hq : Hid (enterV V n pass = .tuple #[ptr c.cb, u64 (keyN n pass), .int .i64 0]) := by
        have : proofN (keyN n pass) = c.proof := by simp at T; omega
        simp [Hid, enterV, HF.out, this]
      go_wp2_with (fail)
      go_ret3
      exact ⟨by rw [hq.out]; rfl, he.trans he1⟩
    · have hq : Hid (enterV V n pass = .tuple #[.pointer none, .int .u64 0, .int .i64 110]) := by
        have : ¬ proofN (keyN n pass) = c.proof := by simp at T; omega
        simp [Hid, enterV, HF.out, this]
      go_wp2_with (fail)
      go_ret3
      exact ⟨by rw [hq.out]; rfl, he.trans he1⟩
end Go.Proofs.Ytlahejakcgoheaa
end
