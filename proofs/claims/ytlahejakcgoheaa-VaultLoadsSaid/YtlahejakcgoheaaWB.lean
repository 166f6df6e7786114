/-
  Texts merged: Base, N1, N2, N3, B1.
-/
import Derived.Test.YtlahejakcgoheaaRows
import Derived.WalkKit
import Derived.WalkSpells
import Derived.WalkLawsBesides
import Derived.BigQuiet
import Derived.Deep.QuietTactic
import Derived.Deep.RegionHeld3
import Derived.Deep.RegionLaw
import Derived.Deep.DeepCutAuto
import Derived.RegionTactic
import Derived.Maps.AppendAt
import Derived.Lib.Hide
import Derived.Test.YtlahejakcgoheaaPL
import Derived.Lib.Mul64
import Derived.Laws.Bits64b
import Derived.Laws.Externs
import Derived.Laws.IdiomStrings
import Derived.Deep.AppendSrc
section
/-
  Base words for the walks of this seat: one relation between worlds (nothing that was there has turned), how slices read, laws for regions that draw their order.
-/
set_option linter.unusedVariables false
set_option linter.unusedSimpArgs false
namespace Go.Proofs.Ytlahejakcgoheaa
open Go.RowKit
/-- The i-th number (a name of its own, so that the walk does not spell it anew). -/
def nth (xs : List Int) (i : Nat) : Int := xs.getD i 0
theorem nth_eq (xs : List Int) (i : Nat) (h : i < xs.length) : nth xs i = xs[i] := by simp [nth, h]
/-- Nothing that was there when the call began has turned. -/
def Ext (w w' : World) : Prop := Below w.heap.size w w'
theorem Ext.refl (w : World) : Ext w w := Below.refl _ w
theorem Ext.trans {a b c : World} (h : Ext a b) (k : Ext b c) : Ext a c := Below.trans h (Below.mono k h.size)
theorem Ext.then {a b c : World} (k : Ext b c) (h : Ext a b) : Ext a c := h.trans k
theorem Ext.alloc {a w : World} (h : Ext a w) (o : Obj) : Ext a (w.alloc o) := Below.alloc h h.size o
theorem Ext.drew {a w : World} (h : Ext a w) : Ext a w.drew := Below.drew h
theorem Ext.cell {w w' : World} (h : Ext w w') {p : Addr} {v : Value} (hc : w.cell? p = some v) : w'.cell? p = some v := by
  have hb : p.block < w.heap.size := by
    rcases Nat.lt_or_ge p.block w.heap.size with h1 | h1
    · exact h1
    · simp [World.cell?, Array.getElem?_eq_none h1] at hc
  rw [Below.cell h hb]; exact hc
theorem Ext.block {w w' : World} (h : Ext w w') {b : Nat} {o : Obj} (hc : w.heap[b]? = some o) : w'.heap[b]? = some o := by
  have hb : b < w.heap.size := by
    rcases Nat.lt_or_ge b w.heap.size with h1 | h1
    · exact h1
    · simp [Array.getElem?_eq_none h1] at hc
  rw [Below.block h b hb]; exact hc
theorem Ext.size {w w' : World} (h : Ext w w') : w.heap.size ≤ w'.heap.size := Below.size h

/-- A slice's head (nil too) under which the ints xs lie, now and later. -/
def Ints (w : World) (a : Option Addr) (xs : List Int) : Prop :=
  xs = [] ∨ ∃ b o, a = some ⟨b, o, none⟩ ∧ ∀ i, i < xs.length → w.cell? ⟨b, o + i, none⟩ = some (.int .i64 (nth xs i))
theorem Ints.ext {w w' : World} {a : Option Addr} {xs : List Int} (h : Ints w a xs) (e : Ext w w') : Ints w' a xs := by
  rcases h with h | ⟨b, o, h1, h2⟩
  · exact .inl h
  · exact .inr ⟨b, o, h1, fun i hi => e.cell (h2 i hi)⟩
theorem Ints.at {w : World} {a : Option Addr} {xs : List Int} (h : Ints w a xs) (i : Nat) (hi : i < xs.length) : ∃ b o, a = some ⟨b, o, none⟩ ∧ ∀ W, Ext w W → W.cell? ⟨b, o + i, none⟩ = some (.int .i64 (nth xs i)) := by
  rcases h with rfl | ⟨b, o, h1, h2⟩
  · simp at hi
  · exact ⟨b, o, h1, fun W e => e.cell (h2 i hi)⟩

/-- Cells in a row, now and later. -/
def Cells (w : World) (b : Nat) : Nat → List Value → Prop
  | _, [] => True
  | i, v :: vs => (∀ W, Ext w W → W.cell? ⟨b, i, none⟩ = some v) ∧ Cells w b (i + 1) vs
theorem cells_from {w : World} {b : Nat} {cs : Array Value} {T : TypeId} {fz : Nat × Nat} (h : w.heap[b]? = some (.cells cs T fz)) : ∀ (l : List Value) (i : Nat), cs.toList.drop i = l → Cells w b i l
  | [], _, _ => trivial
  | v :: vs, i, hl => by
    have hi : i < cs.toList.length := by
      rcases Nat.lt_or_ge i cs.toList.length with h1 | h1
      · exact h1
      · rw [List.drop_of_length_le h1] at hl; cases hl
    rw [List.drop_eq_getElem_cons hi] at hl
    simp only [List.cons.injEq] at hl
    refine ⟨fun W e => e.cell ?_, cells_from h vs (i + 1) hl.2⟩
    have hi' : i < cs.size := by simpa using hi
    simp only [World.cell?, h, Option.isSome_none, Bool.false_eq_true, if_false]
    rw [Array.getElem?_eq_getElem hi', ← hl.1]
    simp
theorem obj_cells {w : World} {b : Nat} {cs : Array Value} {T : TypeId} {fz : Nat × Nat} (h : w.heap[b]? = some (.cells cs T fz)) : Cells w b 0 cs.toList := cells_from h _ 0 rfl
theorem obj_cells1 {w : World} {b : Nat} {v0 : Value} {T : TypeId} {fz : Nat × Nat} (h : w.heap[b]? = some (.cells #[v0] T fz)) :
    (∀ W, Ext w W → W.cell? ⟨b, 0, none⟩ = some v0) :=
  let ⟨h0, _⟩ := obj_cells h
  h0
theorem obj_cells2 {w : World} {b : Nat} {v0 v1 : Value} {T : TypeId} {fz : Nat × Nat} (h : w.heap[b]? = some (.cells #[v0, v1] T fz)) :
    (∀ W, Ext w W → W.cell? ⟨b, 0, none⟩ = some v0) ∧ (∀ W, Ext w W → W.cell? ⟨b, 1, none⟩ = some v1) :=
  let ⟨h0, h1, _⟩ := obj_cells h
  ⟨h0, h1⟩
theorem obj_cells3 {w : World} {b : Nat} {v0 v1 v2 : Value} {T : TypeId} {fz : Nat × Nat} (h : w.heap[b]? = some (.cells #[v0, v1, v2] T fz)) :
    (∀ W, Ext w W → W.cell? ⟨b, 0, none⟩ = some v0) ∧ (∀ W, Ext w W → W.cell? ⟨b, 1, none⟩ = some v1) ∧ (∀ W, Ext w W → W.cell? ⟨b, 2, none⟩ = some v2) :=
  let ⟨h0, h1, h2, _⟩ := obj_cells h
  ⟨h0, h1, h2⟩
theorem obj_cells4 {w : World} {b : Nat} {v0 v1 v2 v3 : Value} {T : TypeId} {fz : Nat × Nat} (h : w.heap[b]? = some (.cells #[v0, v1, v2, v3] T fz)) :
    (∀ W, Ext w W → W.cell? ⟨b, 0, none⟩ = some v0) ∧ (∀ W, Ext w W → W.cell? ⟨b, 1, none⟩ = some v1) ∧ (∀ W, Ext w W → W.cell? ⟨b, 2, none⟩ = some v2) ∧ (∀ W, Ext w W → W.cell? ⟨b, 3, none⟩ = some v3) :=
  let ⟨h0, h1, h2, h3, _⟩ := obj_cells h
  ⟨h0, h1, h2, h3⟩
theorem obj_cells5 {w : World} {b : Nat} {v0 v1 v2 v3 v4 : Value} {T : TypeId} {fz : Nat × Nat} (h : w.heap[b]? = some (.cells #[v0, v1, v2, v3, v4] T fz)) :
    (∀ W, Ext w W → W.cell? ⟨b, 0, none⟩ = some v0) ∧ (∀ W, Ext w W → W.cell? ⟨b, 1, none⟩ = some v1) ∧ (∀ W, Ext w W → W.cell? ⟨b, 2, none⟩ = some v2) ∧ (∀ W, Ext w W → W.cell? ⟨b, 3, none⟩ = some v3) ∧ (∀ W, Ext w W → W.cell? ⟨b, 4, none⟩ = some v4) :=
  let ⟨h0, h1, h2, h3, h4, _⟩ := obj_cells h
  ⟨h0, h1, h2, h3, h4⟩
theorem obj_cells7 {w : World} {b : Nat} {v0 v1 v2 v3 v4 v5 v6 : Value} {T : TypeId} {fz : Nat × Nat} (h : w.heap[b]? = some (.cells #[v0, v1, v2, v3, v4, v5, v6] T fz)) :
    (∀ W, Ext w W → W.cell? ⟨b, 0, none⟩ = some v0) ∧ (∀ W, Ext w W → W.cell? ⟨b, 1, none⟩ = some v1) ∧ (∀ W, Ext w W → W.cell? ⟨b, 2, none⟩ = some v2) ∧ (∀ W, Ext w W → W.cell? ⟨b, 3, none⟩ = some v3) ∧ (∀ W, Ext w W → W.cell? ⟨b, 4, none⟩ = some v4) ∧ (∀ W, Ext w W → W.cell? ⟨b, 5, none⟩ = some v5) ∧ (∀ W, Ext w W → W.cell? ⟨b, 6, none⟩ = some v6) :=
  let ⟨h0, h1, h2, h3, h4, h5, h6, _⟩ := obj_cells h
  ⟨h0, h1, h2, h3, h4, h5, h6⟩
theorem heap_new (w : World) (o : Obj) : (w.alloc o).heap[w.heap.size]? = some o := by
  show (w.heap.push o)[w.heap.size]? = some o
  simp
theorem heap_old (w : World) (o : Obj) (k : Nat) (h : k < w.heap.size) : (w.alloc o).heap[k]? = w.heap[k]? := Below.heap_alloc w o k h
theorem heap_size (w : World) (o : Obj) : (w.alloc o).heap.size = w.heap.size + 1 := by
  show (w.heap.push o).size = _
  simp
theorem alloc1 {w w1 : World} {o : Obj} (h : w.alloc o = w1) : Ext w w1 ∧ w1.heap[w.heap.size]? = some o ∧ w1.heap.size = w.heap.size + 1 := by
  subst h; exact ⟨(Ext.refl w).alloc _, heap_new w o, heap_size w o⟩
theorem alloc2 {w w1 : World} {o p : Obj} (h : (w.alloc o).alloc p = w1) : Ext w w1 ∧ w1.heap[w.heap.size]? = some o ∧ w1.heap[w.heap.size + 1]? = some p ∧ w1.heap.size = w.heap.size + 2 := by
  subst h
  refine ⟨((Ext.refl w).alloc _).alloc _, ?_, ?_, by rw [heap_size, heap_size]⟩
  · rw [heap_old _ _ _ (by rw [heap_size]; omega)]; exact heap_new w o
  · have := heap_new (w.alloc o) p; rwa [heap_size] at this
theorem alloc3 {w w1 : World} {o p q : Obj} (h : ((w.alloc o).alloc p).alloc q = w1) : Ext w w1 ∧ w1.heap[w.heap.size]? = some o ∧ w1.heap[w.heap.size + 1]? = some p ∧ w1.heap[w.heap.size + 2]? = some q ∧ w1.heap.size = w.heap.size + 3 := by
  obtain ⟨a, b, c, d⟩ := alloc2 (w := w) (o := o) (p := p) rfl
  subst h
  refine ⟨a.alloc _, ?_, ?_, ?_, by rw [heap_size, d]⟩
  · rw [heap_old _ _ _ (by rw [d]; omega)]; exact b
  · rw [heap_old _ _ _ (by rw [d]; omega)]; exact c
  · have := heap_new ((w.alloc o).alloc p) q; rwa [d] at this
theorem obj_free {w : World} {b : Nat} {cs : Array Value} {T : TypeId} (h : w.heap[b]? = some (.cells cs T (0, 0))) : ∀ W, Ext w W → ∀ i, W.frozen? ⟨b, i, none⟩ = false := by
  intro W e i
  have := e.block h
  simp [World.frozen?, this]
theorem Ext.set {w W : World} (h : Ext w W) {p : Addr} (hp : w.heap.size ≤ p.block) (u : Value) : Ext w (W.setCell p u) := Below.setCell h hp u
attribute [go_sem] Ext.refl Ext.alloc Ext.drew

/-- The post of a call that returns v and leaves all that was there. -/
def Ret (v : Value) (w : World) (e : Ending) (w' : World) : Prop := e = .returned v ∧ Ext w w'

theorem ret_bool {a b : Bool} (h : a = b) : Ending.returned (.bool a) = .returned (.bool b) := by rw [h]
theorem ret_int {k : IntKind} {a b : Int} (h : a = b) : Ending.returned (.int k a) = .returned (.int k b) := by rw [h]

/-- A function of the program with a body: what a call of its value does. -/
def Enters (P : Program) (f : Nat) : Prop := ∀ args w, (callFunc f args).run P w = .ok (.enter f args) w
theorem Enters.mk {P : Program} {f : Nat} {fn : Func} (hf : P.funcs[f]? = some fn) (hn : (fn.name == "runtime.NumGoroutine") = false) (hb : fn.body.isNone = false) : Enters P f := by
  intro args w
  unfold callFunc
  simp only [program, Sem.run, bind, Sem.bind, hf, hn, hb, Bool.false_eq_true, if_false, pure]

/-- What is asked of a function value that answers a bool: at this argument, in each later world. -/
def Asks (P : Program) (f : Nat) (cap : Array Value) (w : World) (x : Value) (b : Bool) : Prop :=
  Enters P f ∧ ∀ w', Ext w w' → Calls P f (#[x] ++ cap) w' (Ret (.bool b) w')

/-- A world in which all that was in w1 stands. -/
structure Later (w1 : World) where
  val : World
  ok : Ext w1 val
instance (w1 : World) : Nonempty (Later w1) := ⟨⟨w1, Ext.refl w1⟩⟩
@[go_sem] theorem Later.ext {w1 : World} (n : Later w1) : Ext w1 n.val := n.ok
theorem Calls.later {P : Program} {f : FuncId} {args : Array Value} {w1 : World} {n : Later w1} {v : Value} (h : Calls P f args n.val (Ret v n.val)) : Calls P f args n.val fun e w'' => e = .returned v ∧ ∃ m : Later w1, w'' = m.val :=
  h.mono fun _ w' ⟨he, hx⟩ => ⟨he, ⟨w', n.ok.trans hx⟩, rfl⟩
theorem Calls.later_same {P : Program} {f : FuncId} {args : Array Value} {w1 : World} {n : Later w1} {v : Value} (h : Calls P f args n.val fun e w' => e = .returned v ∧ w' = n.val) : Calls P f args n.val fun e w'' => e = .returned v ∧ ∃ m : Later w1, w'' = m.val :=
  h.mono fun _ _ ⟨he, hx⟩ => ⟨he, n, hx⟩
/-- A region that draws its order, whose operations only read, and whose callees leave what was there. -/
theorem wp_region_ext {P : Program} {id : Nat} {Q : Exit → Act → World → Prop} {a : Act} {w w1 : World} {l : List Oper} (hm : P.follows .mixedOrders = true) (hB : Region.lexB .any l.toArray = true) (hE : Ext w1 w)
    (h : wpQuiet P l.toArray (fun w' => ∃ n : Later w1, w' = n.val) (fun a' => ∀ w', (∃ n : Later w1, w' = n.val) → Q .normal a' w') l a) : (Code.region id l.toArray true).wp P Q a w :=
  wp_region_quiet (C := fun w' => ∃ n : Later w1, w' = n.val) hm hB ⟨⟨_, hE.drew⟩, rfl⟩ (by simpa using h)
/-- Under this head (nil too) lie these cells. -/
def Src (w : World) (a : Option Addr) (news : List Value) : Prop := news = [] ∨ ∃ ad, a = some ad ∧ ∀ j u, news[j]? = some u → w.cell? (ad.add j) = some u
theorem run_app (w : World) (base : Nat) (t ty e : TypeId) (i : TypeInfo) (z : Value) (size bytes : Nat) (ht : Try.prog.underlying t = some (.slice e)) (hi : Try.prog.info? e = some i) (hz : i.zero = some z)
    (hsize : i.size = size) (hby : i.bytes = bytes) (hzs : z.cells.size = size) (hsz : 0 < size) (v : Value) (n : Nat) (xs : List Value) (hown : w.ownsRow base e size v n xs)
    (a : Option Addr) (m c : Nat) (news : List Value) (hl : news.length = m * size) (hnews : Src w a news) (h1 : ∀ u ∈ news, u.oneCell' = true)
    (h63 : n + m ≤ maxLen) (hbytes : (n + m) * bytes ≤ 140737488355328) (hbase : base ≤ w.heap.size) :
    ∃ v' w', (Builtin.append_ #[t, t] ty #[v, .slice a m c]).run Try.prog w = .ok v' w' ∧ w'.ownsRow base e size v' (n + m) (xs ++ news) ∧ w.grownBy w' v.ownBlock := by
  have hgen : ∀ (ad : Addr), a = some ad → (∀ j u, news[j]? = some u → w.cell? (ad.add j) = some u) →
      ∃ v' w', (Builtin.append_ #[t, t] ty #[v, .slice a m c]).run Try.prog w = .ok v' w' ∧ w'.ownsRow base e size v' (n + m) (xs ++ news) ∧ w.grownBy w' v.ownBlock := by
    rintro ad rfl hc
    obtain ⟨v', w', r1, r2, r3, -⟩ := run_append_own (P := Try.prog) w base t ty e i z size bytes ht hi hz hsize hby hzs hsz v n xs hown ad m c news hl hc h1 h63 hbytes hbase
    exact ⟨v', w', r1, r2, r3⟩
  rcases hnews with rfl | ⟨ad, ha, hc⟩
  · cases a with
    | some ad => exact hgen ad rfl (fun j u h => by simp at h)
    | none =>
      have hm : m = 0 := by
        have : m * size = 0 := by simpa using hl.symm
        rcases Nat.mul_eq_zero.1 this with h | h
        · exact h
        · omega
      subst hm
      refine ⟨v, w, ?_, by simpa using hown, ⟨rfl, rfl, rfl, Nat.le_refl _, fun _ _ _ => rfl⟩⟩
      rcases hown.2 with ⟨rfl, rfl⟩ | ⟨g, cap, cur, rfl, _, _, hnc, _⟩
      · simp [Builtin.append_, run_underlying ht, sizeOf, typeInfo, hi, Builtin.lenOf, Builtin.firstCells]
      · simp [Builtin.append_, run_underlying ht, sizeOf, typeInfo, hi, Builtin.lenOf, Builtin.firstCells, hnc, storeCells]
  · exact hgen ad ha hc
theorem wpList_app {P : Program} {ops : Array Oper} {rest : List Oper} {o : Oper} {a : Act} {Q : Exit → Act → World → Prop} (w : World) (hgd : o.guard = none) (s x : Operand) (t : TypeId)
    (ho : o.op = .call { callee := .builtin .append, args := #[s, x], argTypes := #[t, t] })
    (R : Value → World → Prop) (hrun : ∃ v' w', (Builtin.append_ #[t, t] o.type #[a.eval s, a.eval x]).run P w = .ok v' w' ∧ R v' w')
    (h : ∀ v' w', R v' w' → wpList P ops Q rest (a.put o.dst v') w') : wpList P ops Q (o :: rest) a w := by
  obtain ⟨v', w', hr, hR⟩ := hrun
  refine wpList_plain hgd fun K hK => ?_
  unfold Oper.wp execOp
  simp only [ho, resolve, invoke, builtin, Sem.run_bind, Sem.run_pure, Result.andThen_ok, List.map_toArray, List.map_cons, List.map_nil, hr]
  exact hK _ _ (h v' w' hR)
/-- 'T{}' of no element. -/
theorem lt_of_block {w : World} {b : Nat} {o : Obj} (h : w.heap[b]? = some o) : b < w.heap.size := by
  rcases Nat.lt_or_ge b w.heap.size with h1 | h1
  · exact h1
  · simp [Array.getElem?_eq_none h1] at h
theorem block_set {w : World} {b : Nat} {cs : Array Value} {T : TypeId} {fz : Nat × Nat} (h : w.heap[b]? = some (.cells cs T fz)) (o : Nat) (v : Value) : (w.setCell ⟨b, o, none⟩ v).heap[b]? = some (.cells (cs.setIfInBounds o v) T fz) := by
  have hlt := lt_of_block h
  simp only [World.setCell, Array.getElem?_modify]
  simp [h]
theorem heap_set_ne {w : World} {g g' o : Nat} (v : Value) (h : g' ≠ g) : (w.setCell ⟨g, o, none⟩ v).heap[g']? = w.heap[g']? := Below.heap_setCell _ _ _ _ (by simpa using h)
theorem obj_cells6 {w : World} {b : Nat} {v0 v1 v2 v3 v4 v5 : Value} {T : TypeId} {fz : Nat × Nat} (h : w.heap[b]? = some (.cells #[v0, v1, v2, v3, v4, v5] T fz)) :
    (∀ W, Ext w W → W.cell? ⟨b, 0, none⟩ = some v0) ∧ (∀ W, Ext w W → W.cell? ⟨b, 1, none⟩ = some v1) ∧ (∀ W, Ext w W → W.cell? ⟨b, 2, none⟩ = some v2) ∧ (∀ W, Ext w W → W.cell? ⟨b, 3, none⟩ = some v3) ∧ (∀ W, Ext w W → W.cell? ⟨b, 4, none⟩ = some v4) ∧ (∀ W, Ext w W → W.cell? ⟨b, 5, none⟩ = some v5) :=
  let ⟨h0, h1, h2, h3, h4, h5, _⟩ := obj_cells h
  ⟨h0, h1, h2, h3, h4, h5⟩
theorem obj_cells8 {w : World} {b : Nat} {v0 v1 v2 v3 v4 v5 v6 v7 : Value} {T : TypeId} {fz : Nat × Nat} (h : w.heap[b]? = some (.cells #[v0, v1, v2, v3, v4, v5, v6, v7] T fz)) :
    (∀ W, Ext w W → W.cell? ⟨b, 0, none⟩ = some v0) ∧ (∀ W, Ext w W → W.cell? ⟨b, 1, none⟩ = some v1) ∧ (∀ W, Ext w W → W.cell? ⟨b, 2, none⟩ = some v2) ∧ (∀ W, Ext w W → W.cell? ⟨b, 3, none⟩ = some v3) ∧ (∀ W, Ext w W → W.cell? ⟨b, 4, none⟩ = some v4) ∧ (∀ W, Ext w W → W.cell? ⟨b, 5, none⟩ = some v5) ∧ (∀ W, Ext w W → W.cell? ⟨b, 6, none⟩ = some v6) ∧ (∀ W, Ext w W → W.cell? ⟨b, 7, none⟩ = some v7) :=
  let ⟨h0, h1, h2, h3, h4, h5, h6, h7, _⟩ := obj_cells h
  ⟨h0, h1, h2, h3, h4, h5, h6, h7⟩
theorem obj_cells9 {w : World} {b : Nat} {v0 v1 v2 v3 v4 v5 v6 v7 v8 : Value} {T : TypeId} {fz : Nat × Nat} (h : w.heap[b]? = some (.cells #[v0, v1, v2, v3, v4, v5, v6, v7, v8] T fz)) :
    (∀ W, Ext w W → W.cell? ⟨b, 0, none⟩ = some v0) ∧ (∀ W, Ext w W → W.cell? ⟨b, 1, none⟩ = some v1) ∧ (∀ W, Ext w W → W.cell? ⟨b, 2, none⟩ = some v2) ∧ (∀ W, Ext w W → W.cell? ⟨b, 3, none⟩ = some v3) ∧ (∀ W, Ext w W → W.cell? ⟨b, 4, none⟩ = some v4) ∧ (∀ W, Ext w W → W.cell? ⟨b, 5, none⟩ = some v5) ∧ (∀ W, Ext w W → W.cell? ⟨b, 6, none⟩ = some v6) ∧ (∀ W, Ext w W → W.cell? ⟨b, 7, none⟩ = some v7) ∧ (∀ W, Ext w W → W.cell? ⟨b, 8, none⟩ = some v8) :=
  let ⟨h0, h1, h2, h3, h4, h5, h6, h7, h8, _⟩ := obj_cells h
  ⟨h0, h1, h2, h3, h4, h5, h6, h7, h8⟩
theorem obj_cells10 {w : World} {b : Nat} {v0 v1 v2 v3 v4 v5 v6 v7 v8 v9 : Value} {T : TypeId} {fz : Nat × Nat} (h : w.heap[b]? = some (.cells #[v0, v1, v2, v3, v4, v5, v6, v7, v8, v9] T fz)) :
    (∀ W, Ext w W → W.cell? ⟨b, 0, none⟩ = some v0) ∧ (∀ W, Ext w W → W.cell? ⟨b, 1, none⟩ = some v1) ∧ (∀ W, Ext w W → W.cell? ⟨b, 2, none⟩ = some v2) ∧ (∀ W, Ext w W → W.cell? ⟨b, 3, none⟩ = some v3) ∧ (∀ W, Ext w W → W.cell? ⟨b, 4, none⟩ = some v4) ∧ (∀ W, Ext w W → W.cell? ⟨b, 5, none⟩ = some v5) ∧ (∀ W, Ext w W → W.cell? ⟨b, 6, none⟩ = some v6) ∧ (∀ W, Ext w W → W.cell? ⟨b, 7, none⟩ = some v7) ∧ (∀ W, Ext w W → W.cell? ⟨b, 8, none⟩ = some v8) ∧ (∀ W, Ext w W → W.cell? ⟨b, 9, none⟩ = some v9) :=
  let ⟨h0, h1, h2, h3, h4, h5, h6, h7, h8, h9, _⟩ := obj_cells h
  ⟨h0, h1, h2, h3, h4, h5, h6, h7, h8, h9⟩
theorem own_empty (w : World) (e : TypeId) (size : Nat) : (w.alloc (.cells #[] e)).ownsRow w.heap.size e size (.slice (some ⟨w.heap.size, 0, none⟩) 0 0) 0 [] := by
  have := World.ownsRow_lit (size := size) (e := e) (base := w.heap.size) w #[] 0 (Nat.le_refl _) (by unfold maxLen; omega) (by simp)
  exact this
/-- All that was there stands, but for the block X. -/
structure ExtX (X : Nat) (w w' : World) : Prop where
  os : w'.os = w.os
  tape : w'.tape = w.tape
  output : w'.output = w.output
  size : w.heap.size ≤ w'.heap.size
  block : ∀ k, k < w.heap.size → k ≠ X → w'.heap[k]? = w.heap[k]?
theorem Ext.x {X : Nat} {w w' : World} (h : Ext w w') : ExtX X w w' := ⟨h.os, h.tape, h.output, h.size, fun k hk _ => Below.block h k hk⟩
theorem ExtX.refl (X : Nat) (w : World) : ExtX X w w := (Ext.refl w).x
theorem ExtX.trans {X : Nat} {a b c : World} (h : ExtX X a b) (k : ExtX X b c) : ExtX X a c :=
  ⟨k.os.trans h.os, k.tape.trans h.tape, k.output.trans h.output, Nat.le_trans h.size k.size, fun i hi hx => (k.block i (Nat.lt_of_lt_of_le hi h.size) hx).trans (h.block i hi hx)⟩
theorem ExtX.ext {X : Nat} {w w' : World} (h : ExtX X w w') (hX : w.heap.size ≤ X) : Ext w w' := ⟨h.os, h.tape, h.output, h.size, fun k hk => h.block k hk (by omega)⟩
theorem ExtX.set {X : Nat} {w W : World} (h : ExtX X w W) (o : Nat) (u : Value) : ExtX X w (W.setCell ⟨X, o, none⟩ u) :=
  h.trans ⟨rfl, rfl, rfl, by simp [World.setCell], fun k hk hx => Below.heap_setCell _ _ _ _ (by simpa using hx)⟩
theorem lt_of_cell {w : World} {p : Addr} {v : Value} (hc : w.cell? p = some v) : p.block < w.heap.size := by
  rcases Nat.lt_or_ge p.block w.heap.size with h1 | h1
  · exact h1
  · simp [World.cell?, Array.getElem?_eq_none h1] at hc
theorem ExtX.cell {X : Nat} {w w' : World} (h : ExtX X w w') {p : Addr} {v : Value} (hc : w.cell? p = some v) (hx : p.block ≠ X) : w'.cell? p = some v := by
  rw [World.cell?_of_block (w := w) (h.block p.block (lt_of_cell hc) hx)]; exact hc

theorem alloc4 {w w1 : World} {o p q r : Obj} (h : (((w.alloc o).alloc p).alloc q).alloc r = w1) : Ext w w1 ∧ w1.heap[w.heap.size]? = some o ∧ w1.heap[w.heap.size + 1]? = some p ∧ w1.heap[w.heap.size + 2]? = some q ∧ w1.heap[w.heap.size + 3]? = some r := by
  obtain ⟨a, b, c, d, e⟩ := alloc3 (w := w) (o := o) (p := p) (q := q) rfl
  subst h
  refine ⟨a.alloc _, ?_, ?_, ?_, ?_⟩
  · rw [heap_old _ _ _ (by rw [e]; omega)]; exact b
  · rw [heap_old _ _ _ (by rw [e]; omega)]; exact c
  · rw [heap_old _ _ _ (by rw [e]; omega)]; exact d
  · have := heap_new (((w.alloc o).alloc p).alloc q) r; rwa [e] at this
theorem ownsRow_lit1 (w : World) (v : Value) (e : TypeId) : (w.alloc (.cells #[v] e)).ownsRow w.heap.size e 1 (.slice (some ⟨w.heap.size, 0, none⟩) 1 1) 1 [v] := by
  have := World.ownsRow_lit (size := 1) (e := e) (base := w.heap.size) w #[v] 1 (Nat.le_refl _) (by unfold maxLen; omega) (by simp)
  exact this
theorem step_app {P : Program} {ops : Array Oper} {o : Oper} {a : Act} {w : World} {K : Act → World → Prop} {Q : Exit → Act → World → Prop} {E : Prop} (hgd : o.guard = none) (s x : Operand) (t : TypeId)
    (ho : o.op = .call { callee := .builtin .append, args := #[s, x], argTypes := #[t, t] }) (v y : Value) (hs : a.eval s = v) (hx : a.eval x = y)
    (R : Value → World → Prop) (hrun : ∃ v' w', (Builtin.append_ #[t, t] o.type #[v, y]).run P w = .ok v' w' ∧ R v' w')
    (h : ∀ v' w', R v' w' → K (a.put o.dst v') w') : if Region.wanted o (yielded ops a.tmps) = true then Oper.wp P o a w K Q else E := by
  have hw : Region.wanted o (yielded ops a.tmps) = true := by simp [Region.wanted, hgd]
  rw [if_pos hw]
  obtain ⟨v', w', hr, hR⟩ := hrun
  unfold Oper.wp execOp
  simp only [ho, resolve, invoke, builtin, Sem.run_bind, Sem.run_pure, Result.andThen_ok, List.map_toArray, List.map_cons, List.map_nil, hs, hx, hr]
  exact h _ _ hR
theorem ownsRow_empty {W : World} {g B : Nat} {e : TypeId} {size : Nat} (hb : W.heap[g]? = some (.cells #[] e (0, 0))) (hB : B ≤ g) : W.ownsRow B e size (.slice (some ⟨g, 0, none⟩) 0 0) 0 [] :=
  ⟨by simp, .inr ⟨g, 0, #[], rfl, hB, hb, Nat.le_refl _, by unfold maxLen; omega, by simp, by simp⟩⟩
/-- Where a slice lies that was appended to one of no element in the block g. -/
def Lies (W : World) (g : Nat) (v : Value) (n : Nat) : Prop := ∃ g' c', v = .slice (some ⟨g', 0, none⟩) n c' ∧ (g' = g ∨ g' = W.heap.size)
theorem run_app0 (W : World) (g B : Nat) (t ty e : TypeId) (i : TypeInfo) (z : Value) (size bytes : Nat) (ht : Try.prog.underlying t = some (.slice e)) (hi : Try.prog.info? e = some i) (hz : i.zero = some z)
    (hsize : i.size = size) (hby : i.bytes = bytes) (hzs : z.cells.size = size) (hsz : 0 < size) (hb : W.heap[g]? = some (.cells #[] e (0, 0))) (hB : B ≤ g)
    (a : Option Addr) (m c : Nat) (news : List Value) (hl : news.length = m * size) (hnews : Src W a news) (h1 : ∀ u ∈ news, u.oneCell' = true)
    (h63 : m ≤ maxLen) (hbytes : m * bytes ≤ 140737488355328) :
    ∃ v' w', (Builtin.append_ #[t, t] ty #[.slice (some ⟨g, 0, none⟩) 0 0, .slice a m c]).run Try.prog W = .ok v' w' ∧ Lies W g v' m ∧ w'.ownsRow B e size v' m news ∧ W.grownBy w' (some g) := by
  have hown := ownsRow_empty (size := size) hb hB
  have hg := lt_of_block hb
  have hgen : ∀ (ad : Addr), a = some ad → (∀ j u, news[j]? = some u → W.cell? (ad.add j) = some u) →
      ∃ v' w', (Builtin.append_ #[t, t] ty #[.slice (some ⟨g, 0, none⟩) 0 0, .slice a m c]).run Try.prog W = .ok v' w' ∧ Lies W g v' m ∧ w'.ownsRow B e size v' m news ∧ W.grownBy w' (some g) := by
    rintro ad rfl hc
    obtain ⟨v', w', r1, r2, r3, r4, r5⟩ := run_append_own_at (P := Try.prog) W B t ty e i z size bytes ht hi hz hsize hby hzs hsz _ 0 [] hown ad m c news hl hc h1 (by omega) (by rw [Nat.zero_add]; exact hbytes) (by omega)
    rw [Nat.zero_add, List.nil_append] at r2
    refine ⟨v', w', r1, ?_, r2, r3⟩
    rcases r2.2 with ⟨hv, _⟩ | ⟨g', cap, cur, hv, _⟩
    · exact absurd (r4.1 hv).1 (by simp)
    · refine ⟨g', cap, hv, ?_⟩
      subst hv
      simpa [Value.ownBlock] using r5
  rcases hnews with rfl | ⟨ad, ha, hc⟩
  · cases a with
    | some ad => exact hgen ad rfl (fun j u h => by simp at h)
    | none =>
      have hm : m = 0 := by
        have : m * size = 0 := by simpa using hl.symm
        rcases Nat.mul_eq_zero.1 this with h | h
        · exact h
        · omega
      subst hm
      refine ⟨_, W, ?_, ⟨g, 0, rfl, .inl rfl⟩, hown, ⟨rfl, rfl, rfl, Nat.le_refl _, fun _ _ _ => rfl⟩⟩
      simp [Builtin.append_, run_underlying ht, sizeOf, typeInfo, hi, Builtin.lenOf, Builtin.firstCells, storeCells]
  · exact hgen ad ha hc
theorem grown_ext0 {w w1 w' : World} {g : Nat} (he : Ext w w1) (hg : w1.grownBy w' (some g)) (hb : w.heap.size ≤ g) : Ext w w' := Below.grown he hg he.size fun k hk => by cases hk; exact hb
theorem heap_get (w : World) (o : Obj) (k : Nat) : (w.alloc o).heap[k]? = if k = w.heap.size then some o else w.heap[k]? := by
  show (w.heap.push o)[k]? = _
  rw [Array.getElem?_push]
theorem heap_dr (w : World) : w.drew.heap = w.heap := rfl
end Go.Proofs.Ytlahejakcgoheaa
end
section
/-
  Walks: the digest's numbers.
-/
set_option linter.unusedVariables false
set_option linter.unusedSimpArgs false
namespace Go.Proofs.Ytlahejakcgoheaa
open Go.RowKit Go.Lib
abbrev u64 (n : Nat) : Value := .int .u64 (n : Int)
theorem maskN (a : Nat) (ha : a < 18446744073709551616) : bits .and .u64 (a : Int) 4294967295 = ((a % 4294967296 : Nat) : Int) := by
  have h := bits_and_u64_nat a 4294967295 ha (by omega)
  have e : a &&& 4294967295 = a % 4294967296 := Nat.and_two_pow_sub_one_eq_mod a 32
  rw [e] at h
  exact h
theorem divN (a : Nat) : (a : Int) / 4294967296 = ((a / 4294967296 : Nat) : Int) := by omega
theorem mulN (a b : Nat) : (a : Int) * (b : Int) = ((a * b : Nat) : Int) := (Int.natCast_mul a b).symm
theorem addN (a b : Nat) : (a : Int) + (b : Int) = ((a + b : Nat) : Int) := (Int.natCast_add a b).symm
theorem wrapN (a : Nat) (ha : a < 18446744073709551616) : IntKind.u64.wrap (a : Int) = (a : Int) := by rw [IntKind.wrap_u64]; omega
theorem wrapM (a : Nat) : IntKind.u64.wrap (a : Int) = ((a % 18446744073709551616 : Nat) : Int) := by rw [IntKind.wrap_u64]; omega
set_option maxHeartbeats 1000000 in
theorem mul64_any (x y : Nat) (hx : x < 18446744073709551616) (hy : y < 18446744073709551616) (w : World) :
    Calls Try.prog 72 #[u64 x, u64 y] w fun e w' => e = .returned (.tuple #[u64 (x * y / 18446744073709551616), u64 (x * y % 18446744073709551616)]) ∧ w = w' := by
  obtain ⟨bd, bt, bw, hhi⟩ := Lib.mul64_hi x y hx hy
  have ba := Lib.half_mul_le (a := x / 4294967296) (b := y / 4294967296) (by omega) (by omega)
  have bb := Lib.half_mul_le (a := x / 4294967296) (b := y % 4294967296) (by omega) (by omega)
  have bc := Lib.half_mul_le (a := x % 4294967296) (b := y / 4294967296) (by omega) (by omega)
  have ba' : x / 4294967296 * (y / 4294967296) < 18446744073709551616 := by omega
  have bb' : x / 4294967296 * (y % 4294967296) < 18446744073709551616 := by omega
  have bc' : x % 4294967296 * (y / 4294967296) < 18446744073709551616 := by omega
  have bh1 : x / 4294967296 * (y / 4294967296) + (x / 4294967296 * (y % 4294967296) + x % 4294967296 * (y % 4294967296) / 4294967296) / 4294967296 < 18446744073709551616 := by omega
  have bh : x / 4294967296 * (y / 4294967296) + (x / 4294967296 * (y % 4294967296) + x % 4294967296 * (y % 4294967296) / 4294967296) / 4294967296 + ((x / 4294967296 * (y % 4294967296) + x % 4294967296 * (y % 4294967296) / 4294967296) % 4294967296 + x % 4294967296 * (y / 4294967296)) / 4294967296 < 18446744073709551616 := by omega
  go_enter Try.func72, Try.ntmps72
  go_wp2
  simp only [maskN x hx, maskN y hy, divN, mulN, addN, wrapN _ bd, wrapN _ bb', wrapN _ bt, maskN _ bt, wrapN _ bc', wrapN _ bw, wrapN _ ba', wrapN _ bh1, wrapN _ bh, wrapM (x * y)]
  rw [hhi]
  go_ret2
  exact ⟨rfl, rfl⟩
theorem add64_run (x y : Nat) (w : World) :
    (callFunc 73 #[u64 x, u64 y, .int .u64 0]).run Try.prog w = .ok (.value (.tuple #[u64 ((x + y) % 18446744073709551616), u64 ((x + y) / 18446744073709551616)])) w := by
  have h := run_callFunc_extern (P := Try.prog) (fn := Try.f73) (f := 73) (args := #[u64 x, u64 y, .int .u64 ((0 : Nat) : Int)]) (w := w) (e := add64Entry) (by kernel_rfl) (by kernel_rfl) (by kernel_rfl) (by kernel_rfl) (by kernel_rfl)
  have h2 := run_add64 (P := Try.prog) (x : Int) (y : Int) 0 (by omega) (by omega) (by omega) (by omega) w
  have h3 : (Int.ofNat 0) = 0 := rfl
  simp only [u64] at h ⊢
  rw [show ((0 : Nat) : Int) = 0 from rfl] at h
  rw [h, h2]
  simp only [Result.andThen]
  congr 5 <;> omega
theorem rem_p61 (s : Nat) : (s : Int) % 2305843009213693951 = ((nh s : Nat) : Int) := by unfold nh p61; omega
set_option maxHeartbeats 400000 in
theorem newHash_any (s : Nat) (w : World) : Calls Try.prog 44 #[u64 s] w fun e w' => e = .returned (u64 (nh s)) ∧ w = w' := by
  go_enter Try.func44, Try.ntmps44
  go_wp2_with (fail)
  simp only [rem_p61]
  go_ret
  exact ⟨rfl, rfl⟩
set_option maxRecDepth 100000 in
set_option maxHeartbeats 400000 in
theorem len64_c (w : World) : Calls Try.prog 100 #[.int .u64 2305843009213693951] w fun e w' => e = .returned (.int .i64 61) ∧ w = w' := by
  go_enter Try.func100, Try.ntmps100
  go_wp2
  go_ret
  exact ⟨ret_int (by decide +kernel), rfl⟩
set_option maxHeartbeats 400000 in
theorem lz64_c (w : World) : Calls Try.prog 94 #[.int .u64 2305843009213693951] w fun e w' => e = .returned (.int .i64 3) ∧ w = w' := by
  go_enter Try.func94, Try.ntmps94
  go_wp2_with (first | (go_at_call 100; (with_reducible refine (len64_c _).mono ?_); rintro e w' ⟨rfl, rfl⟩))
  go_ret
  exact ⟨rfl, rfl⟩
end Go.Proofs.Ytlahejakcgoheaa
end
section
/-
  Walks: bits.Div64 at the divisor 2^61 - 1.
-/
set_option linter.unusedVariables false
set_option linter.unusedSimpArgs false
namespace Go.Proofs.Ytlahejakcgoheaa
open Go.RowKit Go.Lib
set_option maxRecDepth 100000 in
set_option maxHeartbeats 1000000 in
theorem div64_0 (lo : Nat) (hlo : lo < 18446744073709551616) (w : World) :
    Calls Try.prog 74 #[.int .u64 0, u64 lo, .int .u64 2305843009213693951] w fun e w' => (∃ q : Int, e = .returned (.tuple #[.int .u64 q, u64 (nh lo)])) ∧ ∃ n, w' = w.drewN n := by
  go_enter Try.func74, Try.ntmps74
  go_wp2_with (fail)
  go_quiet (fail)
  go_wp2
  simp only [rem_p61]
  go_ret2
  exact ⟨⟨_, rfl⟩, _, rfl⟩
/-- hi * 8 and the three upper bits of lo. -/
theorem or_hi (hi lo : Nat) (h32 : hi ≤ 32) (hlo : lo < 18446744073709551616) : bits .or .u64 ((hi : Int) * 8) ((lo : Int) / 2305843009213693952) = ((hi * 8 + lo / 2305843009213693952 : Nat) : Int) := by
  have h := bits_or_u64_nat (hi * 8) (lo / 2305843009213693952) (by omega) (by omega)
  have e : hi * 8 ||| lo / 2305843009213693952 = hi * 8 + lo / 2305843009213693952 := by
    have := Nat.shiftLeft_add_eq_or_of_lt (b := lo / 2305843009213693952) (i := 3) (by omega) hi
    rw [Nat.shiftLeft_eq] at this
    exact this.symm
  rw [e] at h
  rw [← h]
  congr 1 <;> omega
theorem and_const : bits .and .u64 18446744073709551608 4294967295 = 4294967288 := by
  have := maskN 18446744073709551608 (by omega)
  exact this
theorem tdiv_small (U : Nat) (h : U < 264) : IntKind.u64.wrap ((U : Int).tdiv 4294967295) = 0 := by
  rw [Int.tdiv_eq_ediv_of_nonneg (by omega), Int.ediv_eq_zero_of_lt (by omega) (by omega)]; rfl
theorem wrap8 (lo : Nat) : IntKind.u64.wrap ((lo : Int) * 8) = ((lo * 8 % 18446744073709551616 : Nat) : Int) := by rw [IntKind.wrap_u64]; omega
theorem div_eight (N q : Nat) (h1 : 8 * N < (q + 1) * 18446744073709551608) (h2 : q * 18446744073709551608 ≤ 8 * N) : (8 * N - q * 18446744073709551608) / 8 = N % p61 := by
  have h3 : N = q * p61 + (8 * N - q * 18446744073709551608) / 8 := by
    simp only [p61]; omega
  have h4 : (8 * N - q * 18446744073709551608) / 8 < p61 := by
    simp only [p61]; omega
  exact (div_mod _ _ _ h3 h4).symm
theorem div64_end (hi lo U L E : Nat) (h0 : 0 < hi) (h32 : hi ≤ 32) (hlo : lo < 18446744073709551616) (hU : U = hi * 8 + lo / 2305843009213693952) (hL : L = lo * 8 % 18446744073709551616) (hE : E = U * 4294967296 + L / 4294967296) :
    ∀ q : Nat, E * 4294967296 + L % 4294967296 < (q + 1) * 18446744073709551608 → q * 18446744073709551608 ≤ E * 4294967296 + L % 4294967296 → (E * 4294967296 + L % 4294967296 - q * 18446744073709551608) / 8 = nh (hi * 18446744073709551616 + lo) := by
  intro q h1 h2
  have e : E * 4294967296 + L % 4294967296 = 8 * (hi * 18446744073709551616 + lo) := by omega
  rw [e] at h1 h2 ⊢
  unfold nh
  exact div_eight _ q h1 h2
theorem div_le (q r E M : Nat) (h : q * 4294967295 + r = E ∧ E * 4294967296 + M < (q + 1) * 18446744073709551608) (t : (q : Int) * 4294967288 ≤ 4294967296 * (r : Int) + (M : Int)) : q * 18446744073709551608 ≤ E * 4294967296 + M := by
  obtain ⟨h1, h2⟩ := h
  subst h1
  omega
theorem div_wrap (q E M A : Nat) (h : q * 18446744073709551608 ≤ E * 4294967296 + M) (h2 : E * 4294967296 + M < (q + 1) * 18446744073709551608) (hy : (E * 4294967296 + M - q * 18446744073709551608) / 8 = A) :
    IntKind.u64.wrap (IntKind.u64.wrap (IntKind.u64.wrap ((E : Int) * 4294967296) + M) - IntKind.u64.wrap ((q : Int) * 18446744073709551608)) / 8 = (A : Int) := by
  subst hy
  simp only [IntKind.wrap_u64]
  omega
theorem div_wrap1 (q E M A : Nat) (hq : 1 ≤ q) (h : (q - 1) * 18446744073709551608 ≤ E * 4294967296 + M) (h2 : E * 4294967296 + M < (q - 1 + 1) * 18446744073709551608) (hy : (E * 4294967296 + M - (q - 1) * 18446744073709551608) / 8 = A) :
    IntKind.u64.wrap (IntKind.u64.wrap (IntKind.u64.wrap ((E : Int) * 4294967296) + M) - IntKind.u64.wrap (((q : Int) - 1) * 18446744073709551608)) / 8 = (A : Int) := by
  have := div_wrap (q - 1) E M A h h2 hy
  rw [show ((q - 1 : Nat) : Int) = (q : Int) - 1 from by omega] at this
  exact this
theorem div_less (q r E M : Nat) (hM : M < 4294967296) (h : q * 4294967295 + r = E ∧ E * 4294967296 + M < (q + 1) * 18446744073709551608) (t : 4294967296 * (r : Int) + (M : Int) < (q : Int) * 4294967288) : 1 ≤ q ∧
    (q - 1) * 4294967295 + (r + 4294967295) = E ∧ E * 4294967296 + M < (q - 1 + 1) * 18446744073709551608 := by
  obtain ⟨h1, h2⟩ := h
  subst h1
  obtain ⟨p, rfl⟩ : ∃ p, q = p + 1 := ⟨q - 1, by omega⟩
  rw [Nat.add_sub_cancel]
  have e1 : p * 4294967295 + (r + 4294967295) = (p + 1) * 4294967295 + r := by omega
  have e3 : ((p + 1) * 4294967295 + r) * 4294967296 = (p + 1) * 18446744069414584320 + r * 4294967296 := by rw [Nat.add_mul, Nat.mul_assoc]
  have t2 : 4294967296 * r + M < (p + 1) * 4294967288 := by omega
  clear h2 t
  have e2 : ((p + 1) * 4294967295 + r) * 4294967296 + M < (p + 1) * 18446744073709551608 := by
    rw [e3]; clear e3 e1
    generalize p + 1 = s at *
    omega
  exact ⟨Nat.le_add_left _ _, e1, e2⟩
set_option maxRecDepth 100000 in
set_option maxHeartbeats 1000000 in
theorem div64_1 (hi lo : Nat) (h0 : 0 < hi) (h32 : hi ≤ 32) (hlo : lo < 18446744073709551616) (w : World) :
    Calls Try.prog 74 #[u64 hi, u64 lo, .int .u64 2305843009213693951] w fun e w' => (∃ q : Int, e = .returned (.tuple #[.int .u64 q, u64 (nh (hi * 18446744073709551616 + lo))])) ∧ w = w' := by
  have h1 : ((2305843009213693951 : Int) ≤ hi) ↔ False := iff_of_false (by omega) id
  have h2 : ((hi : Int) == 0) = false := by rw [beq_eq_false_iff_ne]; omega
  go_enter Try.func74, Try.ntmps74
  go_wp2_with (first | (go_at_call 94; (with_reducible refine (lz64_c _).mono ?_); rintro e w' ⟨rfl, rfl⟩))
  rw [and_const, or_hi hi lo h32 hlo, wrap8 lo]
  obtain ⟨U, hU⟩ : ∃ U : Nat, U = hi * 8 + lo / 2305843009213693952 := ⟨_, rfl⟩
  obtain ⟨L, hL⟩ : ∃ L : Nat, L = lo * 8 % 18446744073709551616 := ⟨_, rfl⟩
  have hU3 : U < 264 := by omega
  have hL3 : L < 18446744073709551616 := by omega
  rw [← hU, ← hL]
  have HU := Lib.hid hU
  have HL := Lib.hid hL
  clear hU hL
  simp only [tdiv_small U hU3, maskN L hL3, divN]
  refine wp_loop_rounds 1 ?_; rw [rounds_succ]
  go_wp2_with (fail)
  obtain ⟨E, hE⟩ : ∃ E : Nat, E = U * 4294967296 + L / 4294967296 := ⟨_, rfl⟩
  have hE3 : E < 1138166333440 := by omega
  have e1 : (U : Int) * 4294967296 + (L : Int) / 4294967296 = (E : Int) := by rw [hE]; omega
  obtain ⟨q0, hq0⟩ : ∃ q : Nat, q = E / 4294967295 := ⟨_, rfl⟩
  obtain ⟨r0, hr0⟩ : ∃ r : Nat, r = E % 4294967295 := ⟨_, rfl⟩
  have e2 : (E : Int) / 4294967295 = (q0 : Int) := by rw [hq0]; omega
  have e3 : (E : Int) - (q0 : Int) * 4294967295 = (r0 : Int) := by rw [hq0, hr0]; omega
  have hq1 : q0 < 266 := by omega
  have hI : Hid (q0 * 4294967295 + r0 = E ∧ E * 4294967296 + L % 4294967296 < (q0 + 1) * 18446744073709551608) := ⟨by omega, by omega⟩
  have hr1 : r0 < 4294967295 := by omega
  rw [e1, e2, e3]
  have HE := Lib.hid hE
  clear e1 e2 e3 hq0 hr0 hE
  have hfin := div64_end hi lo U L E h0 h32 hlo HU.out HL.out HE.out
  have HF := Lib.hid hfin
  clear hfin h0 h32 hlo
  go_loop [18, 16] (fun a b => ∃ q r : Nat, a = .int .u64 q ∧ b = .int .u64 r ∧ q < 266 ∧ r < 4294967296 ∧ Hid (q * 4294967295 + r = E ∧ E * 4294967296 + L % 4294967296 < (q + 1) * 18446744073709551608)) (fun a _ => (intOf a).toNat)
  case atStart => exact ⟨q0, r0, rfl, rfl, hq1, by omega, hI⟩
  case round =>
    obtain ⟨q, r, rfl, rfl, hq, hr, hi2⟩ := hrel
    have hl : L % 4294967296 < 4294967296 := Nat.mod_lt _ (by omega)
    obtain ⟨M, hM⟩ : ∃ M : Nat, M = L % 4294967296 := ⟨_, rfl⟩
    rw [← hM] at hl hi2
    have HF2 := HF.out
    rw [← hM] at HF2 ⊢
    have HM := Lib.hid hM
    have HF3 := Lib.hid HF2
    clear HF2 hM HF
    cases T1 : decide (4294967296 * (r : Int) + (M : Int) < (q : Int) * 4294967288)
    · have hq4 : ¬ (4294967296 : Int) ≤ q := by omega
      have hl2 := div_le q r E M hi2.out (by simpa using T1)
      have hx := Lib.hid (div_wrap q E M _ hl2 hi2.out.2 (HF3.out q hi2.out.2 hl2))
      clear HF3 hl2
      go_wp2_with (fail)
      rw [hx.out]
      go_ret2
      exact ⟨⟨_, rfl⟩, rfl⟩
    · have hq4 : ¬ (4294967296 : Int) ≤ q := by omega
      obtain ⟨hq1, hi3⟩ := div_less q r E M hl hi2.out (by simpa using T1)
      have HI3 := Lib.hid hi3
      clear hi3
      by_cases hr0 : r = 0
      · subst hr0
        have T2 : (M : Int) < (q : Int) * 4294967288 := by simpa using T1
        clear T1
        go_wp2_with (fail)
        go_round
        case rel => exact ⟨q - 1, 4294967295, by rw [show ((q - 1 : Nat) : Int) = (q : Int) - 1 from by omega], by simp, by omega, by omega, by have := HI3.out; rw [Nat.zero_add] at this; exact this⟩
        case measure => simp [intOf]; omega
      · have hr4 : (4294967296 : Int) ≤ (r : Int) + 4294967295 := by omega
        have hl2 : (q - 1) * 18446744073709551608 ≤ E * 4294967296 + M := by have := HI3.out; omega
        have hx := Lib.hid (div_wrap1 q E M _ hq1 hl2 HI3.out.2 (HF3.out (q - 1) HI3.out.2 hl2))
        clear HF3 hl2
        go_wp2_with (fail)
        rw [hx.out]
        go_ret2
        exact ⟨⟨_, rfl⟩, rfl⟩
end Go.Proofs.Ytlahejakcgoheaa
end
section
/-
  Walks: a digest goes on with a byte, a number, a text.
-/
set_option linter.unusedVariables false
set_option linter.unusedSimpArgs false
namespace Go.Proofs.Ytlahejakcgoheaa
open Go.RowKit Go.Lib
theorem Ext.drewN {a w : World} (h : Ext a w) (n : Nat) : Ext a (w.drewN n) := ⟨h.os, h.tape, h.output, h.size, fun k hk => Below.block h k hk⟩
abbrev u8 (n : Nat) : Value := .int .u8 (n : Int)
theorem hb_small (h b : Nat) (hh : h < p61) (hb' : b < 256) : h * 257 / 18446744073709551616 + (h * 257 % 18446744073709551616 + (b + 1)) / 18446744073709551616 ≤ 32 ∧
    (h * 257 / 18446744073709551616 + (h * 257 % 18446744073709551616 + (b + 1)) / 18446744073709551616) * 18446744073709551616 + (h * 257 % 18446744073709551616 + (b + 1)) % 18446744073709551616 = h * 257 + b + 1 := by
  unfold p61 at hh
  omega
theorem div64_any (hi lo : Nat) (h32 : hi ≤ 32) (hlo : lo < 18446744073709551616) (w : World) :
    Calls Try.prog 74 #[u64 hi, u64 lo, .int .u64 2305843009213693951] w fun e w' => ∃ q : Int, Ret (.tuple #[.int .u64 q, u64 (nh (hi * 18446744073709551616 + lo))]) w e w' := by
  rcases Nat.eq_zero_or_pos hi with h | h
  · subst h
    refine (div64_0 lo hlo w).mono ?_
    rintro e w' ⟨⟨q, rfl⟩, n, rfl⟩
    exact ⟨q, by rw [Nat.zero_mul, Nat.zero_add], (Ext.refl w).drewN n⟩
  · refine (div64_1 hi lo h h32 hlo w).mono ?_
    rintro e w' ⟨⟨q, rfl⟩, rfl⟩
    exact ⟨q, rfl, Ext.refl w⟩
set_option maxRecDepth 100000 in
set_option maxHeartbeats 1000000 in
theorem byte_any (h b : Nat) (hh : h < p61) (hb' : b < 256) (w : World) : Calls Try.prog 48 #[u64 h, u8 b] w (Ret (u64 (hb h b)) w) := by
  have hm : Calls Try.prog 72 #[u64 h, .int .u64 257] w fun e w' => e = .returned (.tuple #[u64 (h * 257 / 18446744073709551616), u64 (h * 257 % 18446744073709551616)]) ∧ w = w' := mul64_any h 257 (by unfold p61 at hh; omega) (by omega) w
  have hs := hb_small h b hh hb'
  obtain ⟨M, hM⟩ : ∃ M, M = h * 257 / 18446744073709551616 := ⟨_, rfl⟩
  obtain ⟨L, hL⟩ : ∃ L, L = h * 257 % 18446744073709551616 := ⟨_, rfl⟩
  rw [← hM, ← hL] at hm hs
  have hL2 : L < 18446744073709551616 := by omega
  have ha : ∀ w, (callFunc 73 #[u64 L, .int .u64 ((b : Int) + 1), .int .u64 0]).run Try.prog w = .ok (.value (.tuple #[u64 ((L + (b + 1)) % 18446744073709551616), u64 ((L + (b + 1)) / 18446744073709551616)])) w := fun w => add64_run L (b + 1) w
  clear hM hL
  obtain ⟨R, hR⟩ : ∃ R, R = (L + (b + 1)) % 18446744073709551616 := ⟨_, rfl⟩
  obtain ⟨C, hC⟩ : ∃ C, C = (L + (b + 1)) / 18446744073709551616 := ⟨_, rfl⟩
  rw [← hR, ← hC] at ha hs
  have hR2 : R < 18446744073709551616 := by omega
  have hd : Calls Try.prog 74 #[.int .u64 ((M : Int) + (C : Int)), u64 R, .int .u64 2305843009213693951] w fun e w' => ∃ q : Int, Ret (.tuple #[.int .u64 q, u64 (hb h b)]) w e w' := by
    have := div64_any (M + C) R hs.1 hR2 w
    rw [hs.2] at this
    exact this
  have hMC := hs.1
  have HM := Lib.hid hm
  have HD := Lib.hid hd
  clear hm hd hs hR hC
  go_enter Try.func48, Try.ntmps48
  go_wp2_with (first | (go_at_call 72; (with_reducible refine HM.out.mono ?_); rintro e w' ⟨rfl, rfl⟩) | (go_at_call 74; (with_reducible refine HD.out.mono ?_); rintro e w' ⟨q, rfl, he⟩))
  go_ret
  exact ⟨rfl, he⟩
end Go.Proofs.Ytlahejakcgoheaa
end
section
/-
  Base words: bytes in memory.
-/
set_option linter.unusedVariables false
set_option linter.unusedSimpArgs false
namespace Go.Proofs.Ytlahejakcgoheaa
open Go.RowKit
/-- The i-th byte. -/
def bth (xs : List UInt8) (i : Nat) : Nat := (xs.getD i 0).toNat
theorem bth_lt (xs : List UInt8) (i : Nat) : bth xs i < 256 := by unfold bth; exact UInt8.toNat_lt _
theorem bth_eq (xs : List UInt8) (i : Nat) (h : i < xs.length) : bth xs i = xs[i].toNat := by simp [bth, h]
/-- Bytes as cells. -/
def rowB (xs : List UInt8) : List Value := xs.map fun b => u8 b.toNat
theorem rowB_len (xs : List UInt8) : (rowB xs).length = xs.length := by simp [rowB]
theorem rowB_get (xs : List UInt8) (i : Nat) (h : i < xs.length) : (rowB xs)[i]? = some (u8 (bth xs i)) := by simp [rowB, bth_eq _ _ h, h]
theorem rowB_one (xs : List UInt8) : ∀ u ∈ rowB xs, u.oneCell' = true := by
  intro u hu
  simp only [rowB, List.mem_map] at hu
  obtain ⟨x, _, rfl⟩ := hu
  rfl
theorem rowB_append (xs ys : List UInt8) : rowB (xs ++ ys) = rowB xs ++ rowB ys := by simp [rowB]
/-- Under this head (nil too) lie these bytes. -/
def Byts (w : World) (a : Option Addr) (xs : List UInt8) : Prop :=
  xs = [] ∨ ∃ b o, a = some ⟨b, o, none⟩ ∧ ∀ i, i < xs.length → w.cell? ⟨b, o + i, none⟩ = some (u8 (bth xs i))
theorem Byts.ext {w w' : World} {a : Option Addr} {xs : List UInt8} (h : Byts w a xs) (e : Ext w w') : Byts w' a xs := by
  rcases h with h | ⟨b, o, h1, h2⟩
  · exact .inl h
  · exact .inr ⟨b, o, h1, fun i hi => e.cell (h2 i hi)⟩
theorem Byts.at {w : World} {a : Option Addr} {xs : List UInt8} (h : Byts w a xs) (i : Nat) (hi : i < xs.length) : ∃ b o, a = some ⟨b, o, none⟩ ∧ ∀ W, Ext w W → W.cell? ⟨b, o + i, none⟩ = some (u8 (bth xs i)) := by
  rcases h with rfl | ⟨b, o, h1, h2⟩
  · simp at hi
  · exact ⟨b, o, h1, fun W e => e.cell (h2 i hi)⟩
theorem Byts.src {w : World} {a : Option Addr} {xs : List UInt8} (h : Byts w a xs) : Src w a (rowB xs) := by
  rcases h with rfl | ⟨b, o, h1, h2⟩
  · exact .inl rfl
  · refine .inr ⟨_, h1, fun j u hj => ?_⟩
    have hlt : j < xs.length := by
      rcases Nat.lt_or_ge j xs.length with h | h
      · exact h
      · rw [List.getElem?_eq_none (by rw [rowB_len]; exact h)] at hj; cases hj
    rw [rowB_get xs j hlt] at hj
    simp only [Option.some.injEq] at hj
    rw [← hj, Addr.add_lit]
    exact h2 j hlt
/-- A slice of bytes of the call's own, in a block from B on; its block may bear a mark behind its cells. -/
def OwnB (w : World) (B : Nat) (v : Value) (xs : List UInt8) : Prop :=
  (v = .slice none 0 0 ∧ xs = []) ∨
  ∃ g cap cur fz, v = .slice (some ⟨g, 0, none⟩) xs.length cap ∧ B ≤ g ∧ w.heap[g]? = some (.cells cur 5 fz) ∧ xs.length ≤ cap ∧ cap ≤ maxLen ∧ cur.size = cap ∧ cur.toList.take xs.length = rowB xs ∧ (fz = (0, 0) ∨ cap ≤ fz.1)
theorem OwnB.ext {w w' : World} {B : Nat} {v : Value} {xs : List UInt8} (h : OwnB w B v xs) (e : Ext w w') : OwnB w' B v xs := by
  rcases h with h | ⟨g, cap, cur, fz, hv, hg, hh, r⟩
  · exact .inl h
  · exact .inr ⟨g, cap, cur, fz, hv, hg, e.block hh, r⟩
theorem OwnB.mono {w : World} {B B' : Nat} {v : Value} {xs : List UInt8} (h : OwnB w B v xs) (hB : B' ≤ B) : OwnB w B' v xs := by
  rcases h with h | ⟨g, cap, cur, fz, hv, hg, r⟩
  · exact .inl h
  · exact .inr ⟨g, cap, cur, fz, hv, Nat.le_trans hB hg, r⟩
theorem OwnB.own {w : World} {B : Nat} {v : Value} {xs : List UInt8} (h : w.ownsRow B 5 1 v xs.length (rowB xs)) : OwnB w B v xs := by
  obtain ⟨h1, h2⟩ := h
  rcases h2 with ⟨hv, hn⟩ | ⟨g, cap, cur, hv, hg, hh, hnc, hcm, hs, ht⟩
  · exact .inl ⟨hv, List.length_eq_zero_iff.1 hn⟩
  · exact .inr ⟨g, cap, cur, _, hv, hg, hh, hnc, hcm, by omega, by rw [← ht, Nat.mul_one], .inl rfl⟩
theorem OwnB.slice {w : World} {B : Nat} {v : Value} {xs : List UInt8} (h : OwnB w B v xs) : ∃ a c, v = .slice a xs.length c := by
  rcases h with ⟨h, rfl⟩ | ⟨g, cap, cur, fz, hv, r⟩
  · exact ⟨none, 0, h⟩
  · exact ⟨_, _, hv⟩
theorem OwnB.cell {w : World} {B g n c : Nat} {xs : List UInt8} (h : OwnB w B (.slice (some ⟨g, 0, none⟩) n c) xs) (i : Nat) (hi : i < xs.length) : w.cell? ⟨g, i, none⟩ = some (u8 (bth xs i)) := by
  rcases h with ⟨h, rfl⟩ | ⟨g', cap, cur, fz, hv, hg, hh, hnc, hcm, hs, ht, hf⟩
  · cases h
  · simp only [Value.slice.injEq, Option.some.injEq, Addr.mk.injEq] at hv
    obtain ⟨⟨rfl, _⟩, _⟩ := hv
    have h3 : (cur.toList.take xs.length)[i]? = cur.toList[i]? := by rw [List.getElem?_take]; simp [hi]
    rw [ht, rowB_get xs i hi] at h3
    simp only [World.cell?, hh, Option.isSome_none, Bool.false_eq_true, if_false]
    rw [← Array.getElem?_toList, ← h3]
theorem OwnB.byts {w : World} {B : Nat} {a : Option Addr} {n c : Nat} {xs : List UInt8} (h : OwnB w B (.slice a n c) xs) : Byts w a xs ∧ n = xs.length ∧ n ≤ c := by
  have h0 := h
  rcases h with ⟨h, rfl⟩ | ⟨g, cap, cur, fz, hv, hg, hh, hnc, r⟩
  · simp only [Value.slice.injEq] at h
    exact ⟨.inl rfl, h.2.1, by omega⟩
  · simp only [Value.slice.injEq] at hv
    obtain ⟨rfl, rfl, rfl⟩ := hv
    exact ⟨.inr ⟨g, 0, rfl, fun i hi => by rw [Nat.zero_add]; exact h0.cell i hi⟩, rfl, hnc⟩
theorem OwnB.lt {w : World} {B : Nat} {v : Value} {xs : List UInt8} (h : OwnB w B v xs) : ∀ k, v.ownBlock = some k → B ≤ k ∧ k < w.heap.size := by
  rcases h with ⟨h, rfl⟩ | ⟨g, cap, cur, fz, hv, hg, hh, r⟩
  · subst h; intro k hk; simp [Value.ownBlock] at hk
  · subst hv; intro k hk
    simp only [Value.ownBlock, Option.some.injEq] at hk
    subst hk
    exact ⟨hg, lt_of_block hh⟩
theorem setCells_block (g : Nat) (e : TypeId) (fz : Nat × Nat) : ∀ (vs : List Value) (o : Nat) (w : World) (cur : Array Value), w.heap[g]? = some (.cells cur e fz) → o + vs.length ≤ cur.size →
    (w.setCells g o vs).heap[g]? = some (.cells ((cur.toList.take o ++ vs ++ cur.toList.drop (o + vs.length)).toArray) e fz) := by
  intro vs
  induction vs with
  | nil =>
    intro o w cur h hs
    show w.heap[g]? = _
    rw [h]
    simp
  | cons v vs ih =>
    intro o w cur h hs
    show ((w.setCell ⟨g, o, none⟩ v).setCells g (o + 1) vs).heap[g]? = _
    simp only [List.length_cons] at hs
    rw [ih (o + 1) _ _ (block_set h o v) (by rw [Array.size_setIfInBounds]; omega)]
    congr 3
    simp only [Array.toList_setIfInBounds]
    apply List.ext_getElem?
    intro i
    have hlen : cur.toList.length = cur.size := by simp
    simp only [List.getElem?_append, List.length_append, List.length_take, List.length_set, hlen, List.length_cons, List.getElem?_take, List.getElem?_drop, List.getElem?_set]
    have e1 : min (o + 1) cur.size = o + 1 := by omega
    have e2 : min o cur.size = o := by omega
    rw [e1, e2]
    by_cases h1 : i < o
    · simp [h1, show i < o + 1 by omega, show i < o + 1 + vs.length by omega, show i < o + (vs.length + 1) by omega, show ¬ o = i by omega]
    · by_cases h2 : i = o
      · subst h2
        simp [show i < i + 1 + vs.length by omega, show i < cur.size by omega]
      · by_cases h3 : i < o + 1 + vs.length
        · have h4 : ¬ i < o + 1 := by omega
          simp only [h1, h3, h4, if_true, if_false, show i < o + (vs.length + 1) by omega]
          rw [show i - o = (i - (o + 1)) + 1 by omega, List.getElem?_cons_succ]
        · simp only [h3, if_false, show ¬ i < o + (vs.length + 1) by omega]
          rw [if_neg (by omega)]
          congr 1
          omega
theorem setCells_other (g : Nat) : ∀ (vs : List Value) (o : Nat) (w : World) (k : Nat), k ≠ g → (w.setCells g o vs).heap[k]? = w.heap[k]?
  | [], _, _, _, _ => rfl
  | v :: vs, o, w, k, hk => by
    show ((w.setCell ⟨g, o, none⟩ v).setCells g (o + 1) vs).heap[k]? = _
    rw [setCells_other g vs _ _ k hk, heap_set_ne v hk]
theorem setCells_size (g : Nat) : ∀ (vs : List Value) (o : Nat) (w : World), (w.setCells g o vs).heap.size = w.heap.size ∧ (w.setCells g o vs).os = w.os ∧ (w.setCells g o vs).tape = w.tape ∧ (w.setCells g o vs).output = w.output
  | [], _, _ => ⟨rfl, rfl, rfl, rfl⟩
  | v :: vs, o, w => by
    obtain ⟨a, b, c, d⟩ := setCells_size g vs (o + 1) (w.setCell ⟨g, o, none⟩ v)
    exact ⟨a.trans (by simp [World.setCell]), b.trans rfl, c.trans rfl, d.trans rfl⟩
theorem info5 : (Try.prog.info? 5).map (fun i => (i.zero, i.size, i.bytes)) = some (some (.int .u8 0), 1, 1) := by kernel_rfl
/-- 'append(v, x...)' at []byte, v the call's own. -/
theorem app_bytes (w : World) (B : Nat) (ty : TypeId) (v : Value) (xs ys : List UInt8) (a : Option Addr) (c : Nat) (hv : OwnB w B v xs) (hx : Byts w a ys) (hn : xs.length + ys.length ≤ 140737488355328) (hB : B ≤ w.heap.size) :
    ∃ v' w', (Builtin.append_ #[23, 23] ty #[v, .slice a ys.length c]).run Try.prog w = .ok v' w' ∧ OwnB w' B v' (xs ++ ys) ∧ w.grownBy w' v.ownBlock ∧ (v'.ownBlock = v.ownBlock ∨ v'.ownBlock = some w.heap.size) := by
  obtain ⟨i0, hi, hz0, hz1, hz2⟩ := info_parts info5
  by_cases hys : ys = []
  · subst hys
    refine ⟨v, w, ?_, by simpa using hv, ⟨rfl, rfl, rfl, Nat.le_refl _, fun _ _ _ => rfl⟩, .inl rfl⟩
    rcases hv with ⟨rfl, rfl⟩ | ⟨g, cap, cur, fz, rfl, _, _, hnc, _⟩ <;> cases a <;>
      simp [Builtin.append_, run_underlying Try.underlying23, sizeOf, typeInfo, hi, Builtin.lenOf, Builtin.firstCells, storeCells, loadCells, loadCellsFrom, *]
  · rcases hx with h | ⟨sb, so, rfl, hcell⟩
    · exact absurd h hys
    have hpos : 0 < ys.length := List.length_pos_iff.2 hys
    have hnews : ∀ j u, (rowB ys)[j]? = some u → w.cell? ((⟨sb, so, none⟩ : Addr).add j) = some u := fun j u hj => by
      have hlt : j < ys.length := by
        rcases Nat.lt_or_ge j ys.length with h | h
        · exact h
        · rw [List.getElem?_eq_none (by rw [rowB_len]; exact h)] at hj; cases hj
      rw [rowB_get ys j hlt] at hj
      simp only [Option.some.injEq] at hj
      rw [← hj, Addr.add_lit]
      exact hcell j hlt
    rcases hv with ⟨rfl, rfl⟩ | ⟨g, cap, cur, fz, rfl, hBg, hg, hnc, hcm, hcs, htake, hfz⟩
    · obtain ⟨v', w', h1, h2, h3, _, h5⟩ := run_append_own_at (P := Try.prog) w B 23 ty 5 i0 (.int .u8 0) 1 1 Try.underlying23 hi hz0 hz1 hz2 rfl (by omega) (.slice none 0 0) 0 [] (World.ownsRow_nil w B 5 1) ⟨sb, so, none⟩ ys.length c (rowB ys) (by rw [rowB_len]; omega) hnews (rowB_one ys) (by simp at hn; unfold maxLen; omega) (by simp at hn; omega) hB
      refine ⟨v', w', h1, ?_, h3, h5⟩
      rw [List.nil_append]
      refine OwnB.own ?_
      rw [Nat.zero_add, List.nil_append] at h2
      exact h2
    · have holds : ∀ j u, (rowB xs)[j]? = some u → w.cell? ((⟨g, 0, none⟩ : Addr).add j) = some u := fun j u hj => by
        have hlt : j < xs.length := by
          rcases Nat.lt_or_ge j xs.length with h | h
          · exact h
          · rw [List.getElem?_eq_none (by rw [rowB_len]; exact h)] at hj; cases hj
        rw [Addr.add_lit, Nat.zero_add, cell_of_row w g j cur 5 fz hg, ← Array.getElem?_toList]
        have h3 : (cur.toList.take xs.length)[j]? = cur.toList[j]? := by rw [List.getElem?_take]; simp [hlt]
        rw [← h3, htake]; exact hj
      by_cases hroom : xs.length + ys.length ≤ cap
      · have hfr : ∀ j, j < cap → w.frozen? ⟨g, j, none⟩ = false := fun j hj => by
          simp only [World.frozen?, hg]
          rcases hfz with h | h
          · simp [h]
          · simp; omega
        have hS : Go.Src Try.prog i0.size 23 (.slice (some ⟨sb, so, none⟩) ys.length c) ys.length (rowB ys) w :=
          Go.Src.ofSlice w Try.underlying23 _ _ _ _ (by rw [rowB_len, hz1]; omega) hnews (rowB_one ys)
        have hr := run_append_room_src (P := Try.prog) (w := w) 23 23 ty 5 i0 Try.underlying23 hi g 0 xs.length cap _ _ _ hS hroom
          (fun j hj => by rw [rowB_len] at hj; rw [hz1, Nat.zero_add, Nat.mul_one, cell_of_row w g _ cur 5 fz hg]; simp; omega) (fun j hj => by rw [rowB_len] at hj; rw [hz1, Nat.zero_add, Nat.mul_one]; exact hfr _ (by omega))
        rw [hz1, Nat.zero_add, Nat.mul_one] at hr
        have hsb := setCells_block g 5 fz (rowB ys) xs.length w cur hg (by rw [rowB_len]; omega)
        obtain ⟨s1, s2, s3, s4⟩ := setCells_size g (rowB ys) xs.length w
        refine ⟨_, _, hr, .inr ⟨g, cap, _, fz, by rw [List.length_append], hBg, hsb, by rw [List.length_append]; exact hroom, hcm, ?_, ?_, hfz⟩, ⟨s2, s3, s4, by omega, fun k hk hne => setCells_other g _ _ _ k (fun e => hne (by simp [Value.ownBlock, e]))⟩, .inl rfl⟩
        · simp only [List.size_toArray, List.length_append, List.length_take, List.length_drop, Array.length_toList, rowB_len]
          omega
        · rw [htake, rowB_append]
          exact List.take_left' (by simp [rowB_len])
      · have hr := run_append_grow (P := Try.prog) w 23 ty 5 i0 (.int .u8 0) Try.underlying23 hi hz0 ⟨g, 0, none⟩ xs.length cap (rowB xs) (by rw [rowB_len, hz1]; omega) holds ⟨sb, so, none⟩ ys.length c (rowB ys) (by rw [rowB_len, hz1]; omega) hnews (by omega) (by omega) (growslice_fits (by omega) (by rw [hz2]; omega))
        refine ⟨_, _, hr, .inr ⟨w.heap.size, _, _, _, by rw [List.length_append], hB, heap_alloc_new w.drew _, ?_, ?_, ?_, ?_, .inl rfl⟩, ⟨rfl, rfl, rfl, by simp, fun k hk _ => heap_old w.drew _ k hk⟩, .inr rfl⟩
        · rw [List.length_append]; exact grownCap_ge _ _ _ _
        · exact grownCap_le_maxLen _ _ _ _ (by unfold maxLen; omega)
        · have := grownCap_ge w (xs.length + ys.length) cap 5
          simp only [Array.size_append, List.size_toArray, size_zeroCells, rowB_len]
          have e : (Value.int IntKind.u8 0).cells.size = 1 := rfl
          rw [e]; omega
        · simp only [Array.toList_append, rowB_append]
          exact List.take_left' (by simp [rowB_len])
/-- What '[]byte(s)' lays. -/
def bytesW (w : World) (s : ByteArray) : World := w.drew.alloc (.cells (bytesRow s (grownCap w s.size 0 5)) 5 ((bytesRow s (grownCap w s.size 0 5)).size, (bytesRow s (grownCap w s.size 0 5)).size + 1))
def bytesC (w : World) (s : ByteArray) : Nat := grownCap w s.size 0 5
@[go_sem ↓] theorem run_bytesOf (w : World) (s : ByteArray) : (convert 9 23 (.string s)).run Try.prog w = .ok (.slice (some ⟨w.heap.size, 0, none⟩) s.size (bytesC w s)) (bytesW w s) :=
  run_bytes_of_string w 9 23 5 s Try.underlying9 Try.underlying23 Try.underlying5
theorem len_data (s : ByteArray) : s.data.toList.length = s.size := by simp
theorem bytesW_facts (w : World) (s : ByteArray) (hs : s.size ≤ maxLen) : Ext w (bytesW w s) ∧ OwnB (bytesW w s) w.heap.size (.slice (some ⟨w.heap.size, 0, none⟩) s.size (bytesC w s)) s.data.toList ∧ (bytesW w s).heap.size = w.heap.size + 1 := by
  refine ⟨((Ext.refl w).drew).alloc _, ?_, heap_size w.drew _⟩
  have hge : s.size ≤ bytesC w s := grownCap_ge w s.size 0 5
  have hsz : (bytesRow s (bytesC w s)).size = bytesC w s := by
    simp only [bytesRow, Array.size_append, Array.size_map, Array.size_replicate]
    have : s.data.size = s.size := rfl
    omega
  refine .inr ⟨w.heap.size, bytesC w s, bytesRow s (bytesC w s), _, by rw [len_data], Nat.le_refl _, heap_new w.drew _, by rw [len_data]; exact hge, grownCap_le_maxLen w s.size 0 5 hs, hsz, ?_, .inr (Nat.le_of_eq hsz.symm)⟩
  unfold bytesRow rowB
  rw [Array.toList_append]
  exact (List.take_left' (by simp)).trans (by simp)
@[go_sem] theorem ext_bytesW {a w : World} (h : Ext a w) (s : ByteArray) : Ext a (bytesW w s) := (h.drew).alloc _
@[go_sem] theorem size_bytesW (w : World) (s : ByteArray) : (bytesW w s).heap.size = w.heap.size + 1 := heap_size w.drew _
/-- 'string(b)'. -/
theorem run_stringOf (w : World) (a : Option Addr) (xs : List UInt8) (c : Nat) (h : Byts w a xs) : (convert 23 9 (.slice a xs.length c)).run Try.prog w = .ok (.string ⟨xs.toArray⟩) w := by
  rcases h with rfl | ⟨b, o, rfl, hc⟩
  · rw [List.length_nil, run_convert_bytes_string w 23 9 5 a 0 c Try.underlying23 Try.underlying5 Try.underlying9]
    cases a <;> simp [Conv.bytesToString, loadCells, loadCellsFrom] <;> rfl
  · exact run_convert_bytes_back w 23 9 5 ⟨b, o, none⟩ c xs Try.underlying23 Try.underlying5 Try.underlying9 fun j hj => by
      rw [Addr.add_lit, hc j hj, bth_eq _ _ hj]
theorem OwnB.set {w : World} {B g n c j : Nat} {xs : List UInt8} (h : OwnB w B (.slice (some ⟨g, 0, none⟩) n c) xs) (b : UInt8) (hj : j < xs.length) :
    OwnB (w.setCell ⟨g, j, none⟩ (u8 b.toNat)) B (.slice (some ⟨g, 0, none⟩) n c) (xs.set j b) := by
  rcases h with ⟨h, rfl⟩ | ⟨g', cap, cur, fz, hv, hg, hh, hnc, hcm, hs, ht, hf⟩
  · cases h
  · have hv2 := hv
    simp only [Value.slice.injEq, Option.some.injEq, Addr.mk.injEq] at hv
    obtain ⟨⟨rfl, _⟩, rfl, rfl⟩ := hv
    refine .inr ⟨g, c, _, fz, by rw [List.length_set], hg, block_set hh j _, by rw [List.length_set]; exact hnc, hcm, by rw [Array.size_setIfInBounds]; exact hs, ?_, hf⟩
    rw [List.length_set, Array.toList_setIfInBounds, List.take_set, ht]
    simp [rowB, List.map_set]
theorem OwnB.free {w : World} {B g n c : Nat} {xs : List UInt8} (h : OwnB w B (.slice (some ⟨g, 0, none⟩) n c) xs) (j : Nat) (hj : j < xs.length) : w.frozen? ⟨g, j, none⟩ = false := by
  rcases h with ⟨h, rfl⟩ | ⟨g', cap, cur, fz, hv, hg, hh, hnc, hcm, hs, ht, hf⟩
  · cases h
  · simp only [Value.slice.injEq, Option.some.injEq, Addr.mk.injEq] at hv
    obtain ⟨⟨rfl, _⟩, _⟩ := hv
    simp only [World.frozen?, hh]
    rcases hf with h | h
    · simp [h]
    · simp; omega
/-- The world behind 'make([]byte, n)'. -/
def madeB (W : World) (n : Nat) : World := W.alloc (.cells (madeCells #[.int .u8 0] n) 5)
theorem run_madeB (n : Nat) (hn : n ≤ 140737488355328) (W : World) : (Instr.makeSlice 23 (.int .i64 (n : Int)) (.int .i64 (n : Int))).run Try.prog W = .ok (.slice (some ⟨W.heap.size, 0, none⟩) n n) (madeB W n) := by
  obtain ⟨i0, hi, hz0, hz1, hz2⟩ := info_parts info5
  have := run_make (P := Try.prog) W 23 5 i0 (.int .u8 0) Try.underlying23 hi hz0 .i64 .i64 n n
  rw [hz1, hz2] at this
  have h := this (by omega) (by omega) (by omega) (by omega)
  rw [Int.toNat_natCast, Nat.mul_one] at h
  exact h
theorem madeB_facts {W w1 : World} {n : Nat} (hn : n ≤ 140737488355328) (h : madeB W n = w1) : Ext W w1 ∧ OwnB w1 W.heap.size (.slice (some ⟨W.heap.size, 0, none⟩) n n) (List.replicate n 0) ∧ w1.heap.size = W.heap.size + 1 := by
  subst h
  refine ⟨(Ext.refl W).alloc _, OwnB.own ?_, heap_size _ _⟩
  have e : (madeCells #[Value.int .u8 0] n).toList = rowB (List.replicate n 0) := by
    rw [toList_madeCells_one]; simp [rowB]
  rw [List.length_replicate, ← e]
  have := World.ownsRow_lit (size := 1) (e := 5) (base := W.heap.size) W (madeCells #[Value.int .u8 0] n) n (Nat.le_refl _) (by unfold maxLen; omega) (by rw [size_madeCells]; omega)
  exact this
@[go_sem] theorem ext_madeB {a w : World} (h : Ext a w) (n : Nat) : Ext a (madeB w n) := h.alloc _
@[go_sem] theorem size_madeB (w : World) (n : Nat) : (madeB w n).heap.size = w.heap.size + 1 := heap_size _ _
/-- The post of a call that returns new bytes. -/
def RetB (xs : List UInt8) (w : World) (e : Ending) (w' : World) : Prop := ∃ a c, e = .returned (.slice a xs.length c) ∧ Ext w w' ∧ OwnB w' w.heap.size (.slice a xs.length c) xs
end Go.Proofs.Ytlahejakcgoheaa
end
