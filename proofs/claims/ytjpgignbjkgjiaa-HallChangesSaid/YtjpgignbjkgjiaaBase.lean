/-
  Base words for the walks of this seat: one relation between worlds (nothing that was there has turned), and how slices read.
-/
import Derived.Test.YtjpgignbjkgjiaaRows
import Derived.Test.YtjpgignbjkgjiaaPlain
import Derived.WalkKit
import Derived.WalkSpells
import Derived.WalkLawsBesides
import Derived.BigQuiet
import Derived.Deep.QuietTactic
import Derived.Lib.Hide
namespace Go.Proofs.Ytjpgignbjkgjiaa
open Go.RowKit

/-- Nothing that was there when the call began has turned. -/
def Ext (w w' : World) : Prop := Below w.heap.size w w'
theorem Ext.refl (w : World) : Ext w w := Below.refl _ w
theorem Ext.trans {a b c : World} (h : Ext a b) (k : Ext b c) : Ext a c := Below.trans h (Below.mono k h.size)
theorem Ext.then {a b c : World} (k : Ext b c) (h : Ext a b) : Ext a c := h.trans k
theorem Ext.alloc {a w : World} (h : Ext a w) (o : Obj) : Ext a (w.alloc o) := Below.alloc h h.size o
theorem Ext.drew {a w : World} (h : Ext a w) : Ext a w.drew := Below.drew h
theorem Ext.cell {w w' : World} (h : Ext w w') {p : Addr} {v : Value} (hc : w.cell? p = some v) : w'.cell? p = some v := by
  have hb : p.block < w.heap.size := by
    rcases Nat.lt_or_ge p.block w.heap.size with h1 | h1
    · exact h1
    · simp [World.cell?, Array.getElem?_eq_none h1] at hc
  rw [Below.cell h hb]; exact hc
theorem Ext.block {w w' : World} (h : Ext w w') {b : Nat} {o : Obj} (hc : w.heap[b]? = some o) : w'.heap[b]? = some o := by
  have hb : b < w.heap.size := by
    rcases Nat.lt_or_ge b w.heap.size with h1 | h1
    · exact h1
    · simp [Array.getElem?_eq_none h1] at hc
  rw [Below.block h b hb]; exact hc
theorem Ext.size {w w' : World} (h : Ext w w') : w.heap.size ≤ w'.heap.size := Below.size h

/-- A slice's head (nil too) under which the ints xs lie, now and later. -/
def Ints (w : World) (a : Option Addr) (xs : List Int) : Prop :=
  xs = [] ∨ ∃ b o, a = some ⟨b, o, none⟩ ∧ ∀ i, i < xs.length → w.cell? ⟨b, o + i, none⟩ = some (.int .i64 (nth xs i))
theorem Ints.ext {w w' : World} {a : Option Addr} {xs : List Int} (h : Ints w a xs) (e : Ext w w') : Ints w' a xs := by
  rcases h with h | ⟨b, o, h1, h2⟩
  · exact .inl h
  · exact .inr ⟨b, o, h1, fun i hi => e.cell (h2 i hi)⟩
theorem Ints.at {w : World} {a : Option Addr} {xs : List Int} (h : Ints w a xs) (i : Nat) (hi : i < xs.length) : ∃ b o, a = some ⟨b, o, none⟩ ∧ ∀ W, Ext w W → W.cell? ⟨b, o + i, none⟩ = some (.int .i64 (nth xs i)) := by
  rcases h with rfl | ⟨b, o, h1, h2⟩
  · simp at hi
  · exact ⟨b, o, h1, fun W e => e.cell (h2 i hi)⟩

def Camps (w : World) (a : Option Addr) (cs : List Camp) : Prop :=
  cs = [] ∨ ∃ b o, a = some ⟨b, o, none⟩ ∧ ∀ i, i < cs.length →
    w.cell? ⟨b, o + i * 7, none⟩ = some (.int .i64 (cth cs i).cu) ∧ w.cell? ⟨b, o + i * 7 + 1, none⟩ = some (.int .i64 (cth cs i).pr) ∧
    w.cell? ⟨b, o + i * 7 + 2, none⟩ = some (.int .i64 (cth cs i).ho) ∧ w.cell? ⟨b, o + i * 7 + 3, none⟩ = some (.int .i64 (cth cs i).en) ∧
    w.cell? ⟨b, o + i * 7 + 4, none⟩ = some (.int .i64 (cth cs i).ea) ∧ w.cell? ⟨b, o + i * 7 + 5, none⟩ = some (.int .i64 (cth cs i).la) ∧
    w.cell? ⟨b, o + i * 7 + 6, none⟩ = some (.int .i64 (cth cs i).we)
theorem Camps.ext {w w' : World} {a : Option Addr} {cs : List Camp} (h : Camps w a cs) (e : Ext w w') : Camps w' a cs := by
  rcases h with h | ⟨b, o, h1, h2⟩
  · exact .inl h
  · refine .inr ⟨b, o, h1, fun i hi => ?_⟩
    obtain ⟨c0, c1, c2, c3, c4, c5, c6⟩ := h2 i hi
    exact ⟨e.cell c0, e.cell c1, e.cell c2, e.cell c3, e.cell c4, e.cell c5, e.cell c6⟩
theorem Camps.at {w : World} {a : Option Addr} {cs : List Camp} (h : Camps w a cs) (i : Nat) (hi : i < cs.length) : ∃ b o, a = some ⟨b, o, none⟩ ∧
    (∀ W, Ext w W → W.cell? ⟨b, o + i * 7, none⟩ = some (.int .i64 (cth cs i).cu)) ∧ (∀ W, Ext w W → W.cell? ⟨b, o + i * 7 + 1, none⟩ = some (.int .i64 (cth cs i).pr)) ∧
    (∀ W, Ext w W → W.cell? ⟨b, o + i * 7 + 2, none⟩ = some (.int .i64 (cth cs i).ho)) ∧ (∀ W, Ext w W → W.cell? ⟨b, o + i * 7 + 3, none⟩ = some (.int .i64 (cth cs i).en)) ∧
    (∀ W, Ext w W → W.cell? ⟨b, o + i * 7 + 4, none⟩ = some (.int .i64 (cth cs i).ea)) ∧ (∀ W, Ext w W → W.cell? ⟨b, o + i * 7 + 5, none⟩ = some (.int .i64 (cth cs i).la)) ∧
    (∀ W, Ext w W → W.cell? ⟨b, o + i * 7 + 6, none⟩ = some (.int .i64 (cth cs i).we)) := by
  rcases h with rfl | ⟨b, o, h1, h2⟩
  · simp at hi
  · obtain ⟨c0, c1, c2, c3, c4, c5, c6⟩ := h2 i hi
    exact ⟨b, o, h1, fun W e => e.cell c0, fun W e => e.cell c1, fun W e => e.cell c2, fun W e => e.cell c3, fun W e => e.cell c4, fun W e => e.cell c5, fun W e => e.cell c6⟩

/-- Where a hall's two lists lie. -/
structure HP where
  sa : Option Addr
  sc : Nat
  ea : Option Addr
  ec : Nat
abbrev hval (h : Hal) (x : HP) : Value := .agg #[.int .i64 h.ro, .int .i64 h.cl, .slice x.sa h.st.length x.sc, .slice x.ea h.en.length x.ec]
structure HallAt (w : World) (h : Hal) (x : HP) : Prop where
  st : Ints w x.sa h.st
  en : Ints w x.ea h.en
theorem HallAt.ext {w w' : World} {h : Hal} {x : HP} (q : HallAt w h x) (e : Ext w w') : HallAt w' h x := ⟨q.st.ext e, q.en.ext e⟩
abbrev cval (c : Camp) : Value := .agg #[.int .i64 c.cu, .int .i64 c.pr, .int .i64 c.ho, .int .i64 c.en, .int .i64 c.ea, .int .i64 c.la, .int .i64 c.we]

abbrev bval (b : Br) : Value := .agg #[.int .u8 b.ru, .int .i64 b.a, .int .i64 b.b, .int .i64 b.ho]

/-- Cells in a row, now and later. -/
def Cells (w : World) (b : Nat) : Nat → List Value → Prop
  | _, [] => True
  | i, v :: vs => (∀ W, Ext w W → W.cell? ⟨b, i, none⟩ = some v) ∧ Cells w b (i + 1) vs
theorem cells_from {w : World} {b : Nat} {cs : Array Value} {T : TypeId} {fz : Nat × Nat} (h : w.heap[b]? = some (.cells cs T fz)) : ∀ (l : List Value) (i : Nat), cs.toList.drop i = l → Cells w b i l
  | [], _, _ => trivial
  | v :: vs, i, hl => by
    have hi : i < cs.toList.length := by
      rcases Nat.lt_or_ge i cs.toList.length with h1 | h1
      · exact h1
      · rw [List.drop_of_length_le h1] at hl; cases hl
    rw [List.drop_eq_getElem_cons hi] at hl
    simp only [List.cons.injEq] at hl
    refine ⟨fun W e => e.cell ?_, cells_from h vs (i + 1) hl.2⟩
    have hi' : i < cs.size := by simpa using hi
    simp only [World.cell?, h, Option.isSome_none, Bool.false_eq_true, if_false]
    rw [Array.getElem?_eq_getElem hi', ← hl.1]
    simp
theorem obj_cells {w : World} {b : Nat} {cs : Array Value} {T : TypeId} {fz : Nat × Nat} (h : w.heap[b]? = some (.cells cs T fz)) : Cells w b 0 cs.toList := cells_from h _ 0 rfl
theorem obj_cells1 {w : World} {b : Nat} {v0 : Value} {T : TypeId} {fz : Nat × Nat} (h : w.heap[b]? = some (.cells #[v0] T fz)) :
    (∀ W, Ext w W → W.cell? ⟨b, 0, none⟩ = some v0) :=
  let ⟨h0, _⟩ := obj_cells h
  h0
theorem obj_cells2 {w : World} {b : Nat} {v0 v1 : Value} {T : TypeId} {fz : Nat × Nat} (h : w.heap[b]? = some (.cells #[v0, v1] T fz)) :
    (∀ W, Ext w W → W.cell? ⟨b, 0, none⟩ = some v0) ∧ (∀ W, Ext w W → W.cell? ⟨b, 1, none⟩ = some v1) :=
  let ⟨h0, h1, _⟩ := obj_cells h
  ⟨h0, h1⟩
theorem obj_cells3 {w : World} {b : Nat} {v0 v1 v2 : Value} {T : TypeId} {fz : Nat × Nat} (h : w.heap[b]? = some (.cells #[v0, v1, v2] T fz)) :
    (∀ W, Ext w W → W.cell? ⟨b, 0, none⟩ = some v0) ∧ (∀ W, Ext w W → W.cell? ⟨b, 1, none⟩ = some v1) ∧ (∀ W, Ext w W → W.cell? ⟨b, 2, none⟩ = some v2) :=
  let ⟨h0, h1, h2, _⟩ := obj_cells h
  ⟨h0, h1, h2⟩
theorem obj_cells4 {w : World} {b : Nat} {v0 v1 v2 v3 : Value} {T : TypeId} {fz : Nat × Nat} (h : w.heap[b]? = some (.cells #[v0, v1, v2, v3] T fz)) :
    (∀ W, Ext w W → W.cell? ⟨b, 0, none⟩ = some v0) ∧ (∀ W, Ext w W → W.cell? ⟨b, 1, none⟩ = some v1) ∧ (∀ W, Ext w W → W.cell? ⟨b, 2, none⟩ = some v2) ∧ (∀ W, Ext w W → W.cell? ⟨b, 3, none⟩ = some v3) :=
  let ⟨h0, h1, h2, h3, _⟩ := obj_cells h
  ⟨h0, h1, h2, h3⟩
theorem obj_cells5 {w : World} {b : Nat} {v0 v1 v2 v3 v4 : Value} {T : TypeId} {fz : Nat × Nat} (h : w.heap[b]? = some (.cells #[v0, v1, v2, v3, v4] T fz)) :
    (∀ W, Ext w W → W.cell? ⟨b, 0, none⟩ = some v0) ∧ (∀ W, Ext w W → W.cell? ⟨b, 1, none⟩ = some v1) ∧ (∀ W, Ext w W → W.cell? ⟨b, 2, none⟩ = some v2) ∧ (∀ W, Ext w W → W.cell? ⟨b, 3, none⟩ = some v3) ∧ (∀ W, Ext w W → W.cell? ⟨b, 4, none⟩ = some v4) :=
  let ⟨h0, h1, h2, h3, h4, _⟩ := obj_cells h
  ⟨h0, h1, h2, h3, h4⟩
theorem obj_cells7 {w : World} {b : Nat} {v0 v1 v2 v3 v4 v5 v6 : Value} {T : TypeId} {fz : Nat × Nat} (h : w.heap[b]? = some (.cells #[v0, v1, v2, v3, v4, v5, v6] T fz)) :
    (∀ W, Ext w W → W.cell? ⟨b, 0, none⟩ = some v0) ∧ (∀ W, Ext w W → W.cell? ⟨b, 1, none⟩ = some v1) ∧ (∀ W, Ext w W → W.cell? ⟨b, 2, none⟩ = some v2) ∧ (∀ W, Ext w W → W.cell? ⟨b, 3, none⟩ = some v3) ∧ (∀ W, Ext w W → W.cell? ⟨b, 4, none⟩ = some v4) ∧ (∀ W, Ext w W → W.cell? ⟨b, 5, none⟩ = some v5) ∧ (∀ W, Ext w W → W.cell? ⟨b, 6, none⟩ = some v6) :=
  let ⟨h0, h1, h2, h3, h4, h5, h6, _⟩ := obj_cells h
  ⟨h0, h1, h2, h3, h4, h5, h6⟩
theorem heap_new (w : World) (o : Obj) : (w.alloc o).heap[w.heap.size]? = some o := by
  show (w.heap.push o)[w.heap.size]? = some o
  simp
theorem heap_old (w : World) (o : Obj) (k : Nat) (h : k < w.heap.size) : (w.alloc o).heap[k]? = w.heap[k]? := Below.heap_alloc w o k h
theorem heap_size (w : World) (o : Obj) : (w.alloc o).heap.size = w.heap.size + 1 := by
  show (w.heap.push o).size = _
  simp
theorem alloc1 {w w1 : World} {o : Obj} (h : w.alloc o = w1) : Ext w w1 ∧ w1.heap[w.heap.size]? = some o ∧ w1.heap.size = w.heap.size + 1 := by
  subst h; exact ⟨(Ext.refl w).alloc _, heap_new w o, heap_size w o⟩
theorem alloc2 {w w1 : World} {o p : Obj} (h : (w.alloc o).alloc p = w1) : Ext w w1 ∧ w1.heap[w.heap.size]? = some o ∧ w1.heap[w.heap.size + 1]? = some p ∧ w1.heap.size = w.heap.size + 2 := by
  subst h
  refine ⟨((Ext.refl w).alloc _).alloc _, ?_, ?_, by rw [heap_size, heap_size]⟩
  · rw [heap_old _ _ _ (by rw [heap_size]; omega)]; exact heap_new w o
  · have := heap_new (w.alloc o) p; rwa [heap_size] at this
theorem alloc3 {w w1 : World} {o p q : Obj} (h : ((w.alloc o).alloc p).alloc q = w1) : Ext w w1 ∧ w1.heap[w.heap.size]? = some o ∧ w1.heap[w.heap.size + 1]? = some p ∧ w1.heap[w.heap.size + 2]? = some q ∧ w1.heap.size = w.heap.size + 3 := by
  obtain ⟨a, b, c, d⟩ := alloc2 (w := w) (o := o) (p := p) rfl
  subst h
  refine ⟨a.alloc _, ?_, ?_, ?_, by rw [heap_size, d]⟩
  · rw [heap_old _ _ _ (by rw [d]; omega)]; exact b
  · rw [heap_old _ _ _ (by rw [d]; omega)]; exact c
  · have := heap_new ((w.alloc o).alloc p) q; rwa [d] at this
theorem obj_free {w : World} {b : Nat} {cs : Array Value} {T : TypeId} (h : w.heap[b]? = some (.cells cs T (0, 0))) : ∀ W, Ext w W → ∀ i, W.frozen? ⟨b, i, none⟩ = false := by
  intro W e i
  have := e.block h
  simp [World.frozen?, this]
theorem Ext.set {w W : World} (h : Ext w W) {p : Addr} (hp : w.heap.size ≤ p.block) (u : Value) : Ext w (W.setCell p u) := Below.setCell h hp u
attribute [go_sem] Ext.refl Ext.alloc Ext.drew

/-- The post of a call that returns v and leaves all that was there. -/
def Ret (v : Value) (w : World) (e : Ending) (w' : World) : Prop := e = .returned v ∧ Ext w w'

theorem ret_bool {a b : Bool} (h : a = b) : Ending.returned (.bool a) = .returned (.bool b) := by rw [h]
theorem ret_int {k : IntKind} {a b : Int} (h : a = b) : Ending.returned (.int k a) = .returned (.int k b) := by rw [h]

/-- A function of the program with a body: what a call of its value does. -/
def Enters (P : Program) (f : Nat) : Prop := ∀ args w, (callFunc f args).run P w = .ok (.enter f args) w
theorem Enters.mk {P : Program} {f : Nat} {fn : Func} (hf : P.funcs[f]? = some fn) (hn : (fn.name == "runtime.NumGoroutine") = false) (hb : fn.body.isNone = false) : Enters P f := by
  intro args w
  unfold callFunc
  simp only [program, Sem.run, bind, Sem.bind, hf, hn, hb, Bool.false_eq_true, if_false, pure]

/-- What is asked of a function value that answers a bool: at this argument, in each later world. -/
def Asks (P : Program) (f : Nat) (cap : Array Value) (w : World) (x : Value) (b : Bool) : Prop :=
  Enters P f ∧ ∀ w', Ext w w' → Calls P f (#[x] ++ cap) w' (Ret (.bool b) w')

/-- A world in which all that was in w1 stands. -/
structure Later (w1 : World) where
  val : World
  ok : Ext w1 val
instance (w1 : World) : Nonempty (Later w1) := ⟨⟨w1, Ext.refl w1⟩⟩
@[go_sem] theorem Later.ext {w1 : World} (n : Later w1) : Ext w1 n.val := n.ok
theorem Calls.later {P : Program} {f : FuncId} {args : Array Value} {w1 : World} {n : Later w1} {v : Value} (h : Calls P f args n.val (Ret v n.val)) : Calls P f args n.val fun e w'' => e = .returned v ∧ ∃ m : Later w1, w'' = m.val :=
  h.mono fun _ w' ⟨he, hx⟩ => ⟨he, ⟨w', n.ok.trans hx⟩, rfl⟩
theorem Calls.later_same {P : Program} {f : FuncId} {args : Array Value} {w1 : World} {n : Later w1} {v : Value} (h : Calls P f args n.val fun e w' => e = .returned v ∧ w' = n.val) : Calls P f args n.val fun e w'' => e = .returned v ∧ ∃ m : Later w1, w'' = m.val :=
  h.mono fun _ _ ⟨he, hx⟩ => ⟨he, n, hx⟩
/-- A region that draws its order, whose operations only read, and whose callees leave what was there. -/
theorem wp_region_ext {P : Program} {id : Nat} {Q : Exit → Act → World → Prop} {a : Act} {w w1 : World} {l : List Oper} (hm : P.follows .mixedOrders = true) (hB : Region.lexB .any l.toArray = true) (hE : Ext w1 w)
    (h : wpQuiet P l.toArray (fun w' => ∃ n : Later w1, w' = n.val) (fun a' => ∀ w', (∃ n : Later w1, w' = n.val) → Q .normal a' w') l a) : (Code.region id l.toArray true).wp P Q a w :=
  wp_region_quiet (C := fun w' => ∃ n : Later w1, w' = n.val) hm hB ⟨⟨_, hE.drew⟩, rfl⟩ (by simpa using h)
/-- Numbers as cells. -/
def rowI (xs : List Int) : List Value := xs.map (Value.int .i64)
theorem rowI_len (xs : List Int) : (rowI xs).length = xs.length := by simp [rowI]
theorem rowI_get (xs : List Int) (i : Nat) (h : i < xs.length) : (rowI xs)[i]? = some (.int .i64 (nth xs i)) := by simp [rowI, nth_eq _ _ h, h]
theorem rowI_set (n : Nat) (f : Nat → Int) (j : Nat) (v : Int) : (rowI (fl n f)).set j (.int .i64 v) = rowI (fl n fun i => if i = j then v else f i) := by
  unfold rowI fl
  apply List.ext_getElem
  · simp
  · intro i h1 h2
    simp only [List.getElem_set, List.getElem_map, List.getElem_range]
    by_cases h : i = j
    · simp [h]
    · have h' : ¬ j = i := fun e => h e.symm
      simp [h, h']
/-- A slice of the call's own: its numbers, in a block from B on. -/
def OwnI (w : World) (B : Nat) (v : Value) (xs : List Int) : Prop := w.ownsRow B 3 1 v xs.length (rowI xs)
theorem OwnI.ints {w : World} {B : Nat} {a : Option Addr} {n c : Nat} {xs : List Int} (h : OwnI w B (.slice a n c) xs) : Ints w a xs ∧ n = xs.length ∧ n ≤ c := by
  obtain ⟨h1, h2⟩ := h
  rcases h2 with ⟨hv, hn⟩ | ⟨g, cap, cur, hv, hg, hh, hnc, hcm, hs, ht⟩
  · simp only [Value.slice.injEq] at hv
    have : xs = [] := List.length_eq_zero_iff.1 hn
    exact ⟨.inl this, by omega, by omega⟩
  · simp only [Value.slice.injEq] at hv
    obtain ⟨rfl, rfl, rfl⟩ := hv
    refine ⟨.inr ⟨g, 0, rfl, fun i hi => ?_⟩, rfl, hnc⟩
    have hi' : i < cur.toList.length := by rw [Array.length_toList, hs]; omega
    have h3 : (cur.toList.take (xs.length * 1))[i]? = cur.toList[i]? := by rw [List.getElem?_take]; simp [hi]
    rw [ht, rowI_get xs i hi] at h3
    simp only [World.cell?, hh, Option.isSome_none, Bool.false_eq_true, if_false, Nat.zero_add]
    rw [← Array.getElem?_toList, ← h3]
theorem OwnI.ext {w w' : World} {B : Nat} {v : Value} {xs : List Int} (h : OwnI w B v xs) (e : Ext w w') : OwnI w' B v xs := by
  obtain ⟨h1, h2⟩ := h
  refine ⟨h1, ?_⟩
  rcases h2 with h2 | ⟨g, cap, cur, hv, hg, hh, r⟩
  · exact .inl h2
  · exact .inr ⟨g, cap, cur, hv, hg, e.block hh, r⟩
/-- The post of a call that returns new numbers. -/
def RetI (xs : List Int) (w : World) (e : Ending) (w' : World) : Prop := ∃ a c, e = .returned (.slice a xs.length c) ∧ Ext w w' ∧ OwnI w' w.heap.size (.slice a xs.length c) xs
theorem info3 : (Try.prog.info? 3).map (fun i => (i.zero, i.size, i.bytes)) = some (some (.int .i64 0), 1, 8) := by kernel_rfl
/-- 'make([]int, n)'. -/
theorem make_ints (w : World) (n : Nat) (hn : n ≤ 1000000) : ∃ w', (Instr.makeSlice 22 (.int .i64 (n : Int)) (.int .i64 (n : Int))).run Try.prog w = .ok (.slice (some ⟨w.heap.size, 0, none⟩) n n) w' ∧
    OwnI w' w.heap.size (.slice (some ⟨w.heap.size, 0, none⟩) n n) (fl n fun _ => 0) ∧ Ext w w' ∧ w.heap.size < w'.heap.size := by
  obtain ⟨i0, hi, hz0, hz1, hz2⟩ := info_parts info3
  obtain ⟨w', h1, h2, h3⟩ := run_make_full (P := Try.prog) w w.heap.size 22 3 i0 (.int .i64 0) 1 Try.underlying22 hi hz0 hz1 .i64 .i64 n (by rw [hz2]; omega) (by unfold maxLen; omega) (Nat.le_refl _)
  refine ⟨w', h1, ?_, ⟨h3.os, h3.tape, h3.output, h3.size, fun k hk => h3.block k hk (by simp)⟩, ?_⟩
  · unfold OwnI
    rw [fl_len]
    have : (madeCells (Value.int IntKind.i64 0).cells (n * 1)).toList = rowI (fl n fun _ => 0) := by
      show (madeCells #[Value.int IntKind.i64 0] (n * 1)).toList = _
      rw [Nat.mul_one, toList_madeCells_one]
      unfold rowI fl
      apply List.ext_getElem
      · simp
      · intro i h1 h2; simp
    rw [← this]
    exact h2
  · exact (h2.lt w.heap.size rfl).2
end Go.Proofs.Ytjpgignbjkgjiaa
