/-
  Texts merged: MA, MB, MC, MM.
-/
import Derived.Test.YtplbofhgmflnlaaGreatRows
import Derived.WalkKit
import Derived.WalkSpells
import Derived.WalkLawsBesides
import Derived.BigQuiet
import Derived.Deep.QuietTactic
import Derived.Deep.RegionHeld3
import Derived.Deep.RegionLaw
import Derived.Deep.DeepCutAuto
import Derived.RegionTactic
import Derived.Maps.AppendAt
import Derived.Lib.Hide
import Derived.Laws.Bits64b
import Derived.Laws.Externs
import Derived.Laws.IdiomStrings
import Derived.Deep.AppendSrc
import Derived.Maps.OwnSet
import Derived.Maps.RangeWalk
import Derived.DeepKeys4
section
/-
  Base: worlds, rows, drawn regions.
-/
section
/-
  Base words for the walks of this seat: one relation between worlds (nothing that was there has turned), how slices read, laws for regions that draw their order.
-/
set_option linter.unusedVariables false
set_option linter.unusedSimpArgs false
namespace Go.Proofs.YtplbofhgmflnlaaGreat
open Go.RowKit
/-- The i-th number (a name of its own, so that the walk does not spell it anew). -/
def nth (xs : List Int) (i : Nat) : Int := xs.getD i 0
theorem nth_eq (xs : List Int) (i : Nat) (h : i < xs.length) : nth xs i = xs[i] := by simp [nth, h]
/-- Nothing that was there when the call began has turned. -/
def Ext (w w' : World) : Prop := Below w.heap.size w w'
theorem Ext.refl (w : World) : Ext w w := Below.refl _ w
theorem Ext.trans {a b c : World} (h : Ext a b) (k : Ext b c) : Ext a c := Below.trans h (Below.mono k h.size)
theorem Ext.then {a b c : World} (k : Ext b c) (h : Ext a b) : Ext a c := h.trans k
theorem Ext.alloc {a w : World} (h : Ext a w) (o : Obj) : Ext a (w.alloc o) := Below.alloc h h.size o
theorem Ext.drew {a w : World} (h : Ext a w) : Ext a w.drew := Below.drew h
theorem Ext.cell {w w' : World} (h : Ext w w') {p : Addr} {v : Value} (hc : w.cell? p = some v) : w'.cell? p = some v := by
  have hb : p.block < w.heap.size := by
    rcases Nat.lt_or_ge p.block w.heap.size with h1 | h1
    · exact h1
    · simp [World.cell?, Array.getElem?_eq_none h1] at hc
  rw [Below.cell h hb]; exact hc
theorem Ext.block {w w' : World} (h : Ext w w') {b : Nat} {o : Obj} (hc : w.heap[b]? = some o) : w'.heap[b]? = some o := by
  have hb : b < w.heap.size := by
    rcases Nat.lt_or_ge b w.heap.size with h1 | h1
    · exact h1
    · simp [Array.getElem?_eq_none h1] at hc
  rw [Below.block h b hb]; exact hc
theorem Ext.size {w w' : World} (h : Ext w w') : w.heap.size ≤ w'.heap.size := Below.size h

/-- A slice's head (nil too) under which the ints xs lie, now and later. -/
def Ints (w : World) (a : Option Addr) (xs : List Int) : Prop :=
  xs = [] ∨ ∃ b o, a = some ⟨b, o, none⟩ ∧ ∀ i, i < xs.length → w.cell? ⟨b, o + i, none⟩ = some (.int .i64 (nth xs i))
theorem Ints.ext {w w' : World} {a : Option Addr} {xs : List Int} (h : Ints w a xs) (e : Ext w w') : Ints w' a xs := by
  rcases h with h | ⟨b, o, h1, h2⟩
  · exact .inl h
  · exact .inr ⟨b, o, h1, fun i hi => e.cell (h2 i hi)⟩
theorem Ints.at {w : World} {a : Option Addr} {xs : List Int} (h : Ints w a xs) (i : Nat) (hi : i < xs.length) : ∃ b o, a = some ⟨b, o, none⟩ ∧ ∀ W, Ext w W → W.cell? ⟨b, o + i, none⟩ = some (.int .i64 (nth xs i)) := by
  rcases h with rfl | ⟨b, o, h1, h2⟩
  · simp at hi
  · exact ⟨b, o, h1, fun W e => e.cell (h2 i hi)⟩

/-- Cells in a row, now and later. -/
def Cells (w : World) (b : Nat) : Nat → List Value → Prop
  | _, [] => True
  | i, v :: vs => (∀ W, Ext w W → W.cell? ⟨b, i, none⟩ = some v) ∧ Cells w b (i + 1) vs
theorem cells_from {w : World} {b : Nat} {cs : Array Value} {T : TypeId} {fz : Nat × Nat} (h : w.heap[b]? = some (.cells cs T fz)) : ∀ (l : List Value) (i : Nat), cs.toList.drop i = l → Cells w b i l
  | [], _, _ => trivial
  | v :: vs, i, hl => by
    have hi : i < cs.toList.length := by
      rcases Nat.lt_or_ge i cs.toList.length with h1 | h1
      · exact h1
      · rw [List.drop_of_length_le h1] at hl; cases hl
    rw [List.drop_eq_getElem_cons hi] at hl
    simp only [List.cons.injEq] at hl
    refine ⟨fun W e => e.cell ?_, cells_from h vs (i + 1) hl.2⟩
    have hi' : i < cs.size := by simpa using hi
    simp only [World.cell?, h, Option.isSome_none, Bool.false_eq_true, if_false]
    rw [Array.getElem?_eq_getElem hi', ← hl.1]
    simp
theorem obj_cells {w : World} {b : Nat} {cs : Array Value} {T : TypeId} {fz : Nat × Nat} (h : w.heap[b]? = some (.cells cs T fz)) : Cells w b 0 cs.toList := cells_from h _ 0 rfl
theorem obj_cells1 {w : World} {b : Nat} {v0 : Value} {T : TypeId} {fz : Nat × Nat} (h : w.heap[b]? = some (.cells #[v0] T fz)) :
    (∀ W, Ext w W → W.cell? ⟨b, 0, none⟩ = some v0) :=
  let ⟨h0, _⟩ := obj_cells h
  h0
theorem obj_cells2 {w : World} {b : Nat} {v0 v1 : Value} {T : TypeId} {fz : Nat × Nat} (h : w.heap[b]? = some (.cells #[v0, v1] T fz)) :
    (∀ W, Ext w W → W.cell? ⟨b, 0, none⟩ = some v0) ∧ (∀ W, Ext w W → W.cell? ⟨b, 1, none⟩ = some v1) :=
  let ⟨h0, h1, _⟩ := obj_cells h
  ⟨h0, h1⟩
theorem obj_cells3 {w : World} {b : Nat} {v0 v1 v2 : Value} {T : TypeId} {fz : Nat × Nat} (h : w.heap[b]? = some (.cells #[v0, v1, v2] T fz)) :
    (∀ W, Ext w W → W.cell? ⟨b, 0, none⟩ = some v0) ∧ (∀ W, Ext w W → W.cell? ⟨b, 1, none⟩ = some v1) ∧ (∀ W, Ext w W → W.cell? ⟨b, 2, none⟩ = some v2) :=
  let ⟨h0, h1, h2, _⟩ := obj_cells h
  ⟨h0, h1, h2⟩
theorem obj_cells4 {w : World} {b : Nat} {v0 v1 v2 v3 : Value} {T : TypeId} {fz : Nat × Nat} (h : w.heap[b]? = some (.cells #[v0, v1, v2, v3] T fz)) :
    (∀ W, Ext w W → W.cell? ⟨b, 0, none⟩ = some v0) ∧ (∀ W, Ext w W → W.cell? ⟨b, 1, none⟩ = some v1) ∧ (∀ W, Ext w W → W.cell? ⟨b, 2, none⟩ = some v2) ∧ (∀ W, Ext w W → W.cell? ⟨b, 3, none⟩ = some v3) :=
  let ⟨h0, h1, h2, h3, _⟩ := obj_cells h
  ⟨h0, h1, h2, h3⟩
theorem obj_cells5 {w : World} {b : Nat} {v0 v1 v2 v3 v4 : Value} {T : TypeId} {fz : Nat × Nat} (h : w.heap[b]? = some (.cells #[v0, v1, v2, v3, v4] T fz)) :
    (∀ W, Ext w W → W.cell? ⟨b, 0, none⟩ = some v0) ∧ (∀ W, Ext w W → W.cell? ⟨b, 1, none⟩ = some v1) ∧ (∀ W, Ext w W → W.cell? ⟨b, 2, none⟩ = some v2) ∧ (∀ W, Ext w W → W.cell? ⟨b, 3, none⟩ = some v3) ∧ (∀ W, Ext w W → W.cell? ⟨b, 4, none⟩ = some v4) :=
  let ⟨h0, h1, h2, h3, h4, _⟩ := obj_cells h
  ⟨h0, h1, h2, h3, h4⟩
theorem obj_cells7 {w : World} {b : Nat} {v0 v1 v2 v3 v4 v5 v6 : Value} {T : TypeId} {fz : Nat × Nat} (h : w.heap[b]? = some (.cells #[v0, v1, v2, v3, v4, v5, v6] T fz)) :
    (∀ W, Ext w W → W.cell? ⟨b, 0, none⟩ = some v0) ∧ (∀ W, Ext w W → W.cell? ⟨b, 1, none⟩ = some v1) ∧ (∀ W, Ext w W → W.cell? ⟨b, 2, none⟩ = some v2) ∧ (∀ W, Ext w W → W.cell? ⟨b, 3, none⟩ = some v3) ∧ (∀ W, Ext w W → W.cell? ⟨b, 4, none⟩ = some v4) ∧ (∀ W, Ext w W → W.cell? ⟨b, 5, none⟩ = some v5) ∧ (∀ W, Ext w W → W.cell? ⟨b, 6, none⟩ = some v6) :=
  let ⟨h0, h1, h2, h3, h4, h5, h6, _⟩ := obj_cells h
  ⟨h0, h1, h2, h3, h4, h5, h6⟩
theorem heap_new (w : World) (o : Obj) : (w.alloc o).heap[w.heap.size]? = some o := by
  show (w.heap.push o)[w.heap.size]? = some o
  simp
theorem heap_old (w : World) (o : Obj) (k : Nat) (h : k < w.heap.size) : (w.alloc o).heap[k]? = w.heap[k]? := Below.heap_alloc w o k h
theorem heap_size (w : World) (o : Obj) : (w.alloc o).heap.size = w.heap.size + 1 := by
  show (w.heap.push o).size = _
  simp
theorem alloc1 {w w1 : World} {o : Obj} (h : w.alloc o = w1) : Ext w w1 ∧ w1.heap[w.heap.size]? = some o ∧ w1.heap.size = w.heap.size + 1 := by
  subst h; exact ⟨(Ext.refl w).alloc _, heap_new w o, heap_size w o⟩
theorem alloc2 {w w1 : World} {o p : Obj} (h : (w.alloc o).alloc p = w1) : Ext w w1 ∧ w1.heap[w.heap.size]? = some o ∧ w1.heap[w.heap.size + 1]? = some p ∧ w1.heap.size = w.heap.size + 2 := by
  subst h
  refine ⟨((Ext.refl w).alloc _).alloc _, ?_, ?_, by rw [heap_size, heap_size]⟩
  · rw [heap_old _ _ _ (by rw [heap_size]; omega)]; exact heap_new w o
  · have := heap_new (w.alloc o) p; rwa [heap_size] at this
theorem alloc3 {w w1 : World} {o p q : Obj} (h : ((w.alloc o).alloc p).alloc q = w1) : Ext w w1 ∧ w1.heap[w.heap.size]? = some o ∧ w1.heap[w.heap.size + 1]? = some p ∧ w1.heap[w.heap.size + 2]? = some q ∧ w1.heap.size = w.heap.size + 3 := by
  obtain ⟨a, b, c, d⟩ := alloc2 (w := w) (o := o) (p := p) rfl
  subst h
  refine ⟨a.alloc _, ?_, ?_, ?_, by rw [heap_size, d]⟩
  · rw [heap_old _ _ _ (by rw [d]; omega)]; exact b
  · rw [heap_old _ _ _ (by rw [d]; omega)]; exact c
  · have := heap_new ((w.alloc o).alloc p) q; rwa [d] at this
theorem obj_free {w : World} {b : Nat} {cs : Array Value} {T : TypeId} (h : w.heap[b]? = some (.cells cs T (0, 0))) : ∀ W, Ext w W → ∀ i, W.frozen? ⟨b, i, none⟩ = false := by
  intro W e i
  have := e.block h
  simp [World.frozen?, this]
theorem Ext.set {w W : World} (h : Ext w W) {p : Addr} (hp : w.heap.size ≤ p.block) (u : Value) : Ext w (W.setCell p u) := Below.setCell h hp u
attribute [go_sem] Ext.refl Ext.alloc Ext.drew

/-- The post of a call that returns v and leaves all that was there. -/
def Ret (v : Value) (w : World) (e : Ending) (w' : World) : Prop := e = .returned v ∧ Ext w w'

theorem ret_bool {a b : Bool} (h : a = b) : Ending.returned (.bool a) = .returned (.bool b) := by rw [h]
theorem ret_int {k : IntKind} {a b : Int} (h : a = b) : Ending.returned (.int k a) = .returned (.int k b) := by rw [h]

/-- A function of the program with a body: what a call of its value does. -/
def Enters (P : Program) (f : Nat) : Prop := ∀ args w, (callFunc f args).run P w = .ok (.enter f args) w
theorem Enters.mk {P : Program} {f : Nat} {fn : Func} (hf : P.funcs[f]? = some fn) (hn : (fn.name == "runtime.NumGoroutine") = false) (hb : fn.body.isNone = false) : Enters P f := by
  intro args w
  unfold callFunc
  simp only [program, Sem.run, bind, Sem.bind, hf, hn, hb, Bool.false_eq_true, if_false, pure]

/-- What is asked of a function value that answers a bool: at this argument, in each later world. -/
def Asks (P : Program) (f : Nat) (cap : Array Value) (w : World) (x : Value) (b : Bool) : Prop :=
  Enters P f ∧ ∀ w', Ext w w' → Calls P f (#[x] ++ cap) w' (Ret (.bool b) w')

/-- A world in which all that was in w1 stands. -/
structure Later (w1 : World) where
  val : World
  ok : Ext w1 val
instance (w1 : World) : Nonempty (Later w1) := ⟨⟨w1, Ext.refl w1⟩⟩
@[go_sem] theorem Later.ext {w1 : World} (n : Later w1) : Ext w1 n.val := n.ok
theorem Calls.later {P : Program} {f : FuncId} {args : Array Value} {w1 : World} {n : Later w1} {v : Value} (h : Calls P f args n.val (Ret v n.val)) : Calls P f args n.val fun e w'' => e = .returned v ∧ ∃ m : Later w1, w'' = m.val :=
  h.mono fun _ w' ⟨he, hx⟩ => ⟨he, ⟨w', n.ok.trans hx⟩, rfl⟩
theorem Calls.later_same {P : Program} {f : FuncId} {args : Array Value} {w1 : World} {n : Later w1} {v : Value} (h : Calls P f args n.val fun e w' => e = .returned v ∧ w' = n.val) : Calls P f args n.val fun e w'' => e = .returned v ∧ ∃ m : Later w1, w'' = m.val :=
  h.mono fun _ _ ⟨he, hx⟩ => ⟨he, n, hx⟩
/-- A region that draws its order, whose operations only read, and whose callees leave what was there. -/
theorem wp_region_ext {P : Program} {id : Nat} {Q : Exit → Act → World → Prop} {a : Act} {w w1 : World} {l : List Oper} (hm : P.follows .mixedOrders = true) (hB : Region.lexB .any l.toArray = true) (hE : Ext w1 w)
    (h : wpQuiet P l.toArray (fun w' => ∃ n : Later w1, w' = n.val) (fun a' => ∀ w', (∃ n : Later w1, w' = n.val) → Q .normal a' w') l a) : (Code.region id l.toArray true).wp P Q a w :=
  wp_region_quiet (C := fun w' => ∃ n : Later w1, w' = n.val) hm hB ⟨⟨_, hE.drew⟩, rfl⟩ (by simpa using h)
/-- Under this head (nil too) lie these cells. -/
def Src (w : World) (a : Option Addr) (news : List Value) : Prop := news = [] ∨ ∃ ad, a = some ad ∧ ∀ j u, news[j]? = some u → w.cell? (ad.add j) = some u
theorem run_app (w : World) (base : Nat) (t ty e : TypeId) (i : TypeInfo) (z : Value) (size bytes : Nat) (ht : Tryz.prog.underlying t = some (.slice e)) (hi : Tryz.prog.info? e = some i) (hz : i.zero = some z)
    (hsize : i.size = size) (hby : i.bytes = bytes) (hzs : z.cells.size = size) (hsz : 0 < size) (v : Value) (n : Nat) (xs : List Value) (hown : w.ownsRow base e size v n xs)
    (a : Option Addr) (m c : Nat) (news : List Value) (hl : news.length = m * size) (hnews : Src w a news) (h1 : ∀ u ∈ news, u.oneCell' = true)
    (h63 : n + m ≤ maxLen) (hbytes : (n + m) * bytes ≤ 140737488355328) (hbase : base ≤ w.heap.size) :
    ∃ v' w', (Builtin.append_ #[t, t] ty #[v, .slice a m c]).run Tryz.prog w = .ok v' w' ∧ w'.ownsRow base e size v' (n + m) (xs ++ news) ∧ w.grownBy w' v.ownBlock := by
  have hgen : ∀ (ad : Addr), a = some ad → (∀ j u, news[j]? = some u → w.cell? (ad.add j) = some u) →
      ∃ v' w', (Builtin.append_ #[t, t] ty #[v, .slice a m c]).run Tryz.prog w = .ok v' w' ∧ w'.ownsRow base e size v' (n + m) (xs ++ news) ∧ w.grownBy w' v.ownBlock := by
    rintro ad rfl hc
    obtain ⟨v', w', r1, r2, r3, -⟩ := run_append_own (P := Tryz.prog) w base t ty e i z size bytes ht hi hz hsize hby hzs hsz v n xs hown ad m c news hl hc h1 h63 hbytes hbase
    exact ⟨v', w', r1, r2, r3⟩
  rcases hnews with rfl | ⟨ad, ha, hc⟩
  · cases a with
    | some ad => exact hgen ad rfl (fun j u h => by simp at h)
    | none =>
      have hm : m = 0 := by
        have : m * size = 0 := by simpa using hl.symm
        rcases Nat.mul_eq_zero.1 this with h | h
        · exact h
        · omega
      subst hm
      refine ⟨v, w, ?_, by simpa using hown, ⟨rfl, rfl, rfl, Nat.le_refl _, fun _ _ _ => rfl⟩⟩
      rcases hown.2 with ⟨rfl, rfl⟩ | ⟨g, cap, cur, rfl, _, _, hnc, _⟩
      · simp [Builtin.append_, run_underlying ht, sizeOf, typeInfo, hi, Builtin.lenOf, Builtin.firstCells]
      · simp [Builtin.append_, run_underlying ht, sizeOf, typeInfo, hi, Builtin.lenOf, Builtin.firstCells, hnc, storeCells]
  · exact hgen ad ha hc
theorem wpList_app {P : Program} {ops : Array Oper} {rest : List Oper} {o : Oper} {a : Act} {Q : Exit → Act → World → Prop} (w : World) (hgd : o.guard = none) (s x : Operand) (t : TypeId)
    (ho : o.op = .call { callee := .builtin .append, args := #[s, x], argTypes := #[t, t] })
    (R : Value → World → Prop) (hrun : ∃ v' w', (Builtin.append_ #[t, t] o.type #[a.eval s, a.eval x]).run P w = .ok v' w' ∧ R v' w')
    (h : ∀ v' w', R v' w' → wpList P ops Q rest (a.put o.dst v') w') : wpList P ops Q (o :: rest) a w := by
  obtain ⟨v', w', hr, hR⟩ := hrun
  refine wpList_plain hgd fun K hK => ?_
  unfold Oper.wp execOp
  simp only [ho, resolve, invoke, builtin, Sem.run_bind, Sem.run_pure, Result.andThen_ok, List.map_toArray, List.map_cons, List.map_nil, hr]
  exact hK _ _ (h v' w' hR)
/-- 'T{}' of no element. -/
theorem lt_of_block {w : World} {b : Nat} {o : Obj} (h : w.heap[b]? = some o) : b < w.heap.size := by
  rcases Nat.lt_or_ge b w.heap.size with h1 | h1
  · exact h1
  · simp [Array.getElem?_eq_none h1] at h
theorem block_set {w : World} {b : Nat} {cs : Array Value} {T : TypeId} {fz : Nat × Nat} (h : w.heap[b]? = some (.cells cs T fz)) (o : Nat) (v : Value) : (w.setCell ⟨b, o, none⟩ v).heap[b]? = some (.cells (cs.setIfInBounds o v) T fz) := by
  have hlt := lt_of_block h
  simp only [World.setCell, Array.getElem?_modify]
  simp [h]
theorem heap_set_ne {w : World} {g g' o : Nat} (v : Value) (h : g' ≠ g) : (w.setCell ⟨g, o, none⟩ v).heap[g']? = w.heap[g']? := Below.heap_setCell _ _ _ _ (by simpa using h)
theorem obj_cells6 {w : World} {b : Nat} {v0 v1 v2 v3 v4 v5 : Value} {T : TypeId} {fz : Nat × Nat} (h : w.heap[b]? = some (.cells #[v0, v1, v2, v3, v4, v5] T fz)) :
    (∀ W, Ext w W → W.cell? ⟨b, 0, none⟩ = some v0) ∧ (∀ W, Ext w W → W.cell? ⟨b, 1, none⟩ = some v1) ∧ (∀ W, Ext w W → W.cell? ⟨b, 2, none⟩ = some v2) ∧ (∀ W, Ext w W → W.cell? ⟨b, 3, none⟩ = some v3) ∧ (∀ W, Ext w W → W.cell? ⟨b, 4, none⟩ = some v4) ∧ (∀ W, Ext w W → W.cell? ⟨b, 5, none⟩ = some v5) :=
  let ⟨h0, h1, h2, h3, h4, h5, _⟩ := obj_cells h
  ⟨h0, h1, h2, h3, h4, h5⟩
theorem obj_cells8 {w : World} {b : Nat} {v0 v1 v2 v3 v4 v5 v6 v7 : Value} {T : TypeId} {fz : Nat × Nat} (h : w.heap[b]? = some (.cells #[v0, v1, v2, v3, v4, v5, v6, v7] T fz)) :
    (∀ W, Ext w W → W.cell? ⟨b, 0, none⟩ = some v0) ∧ (∀ W, Ext w W → W.cell? ⟨b, 1, none⟩ = some v1) ∧ (∀ W, Ext w W → W.cell? ⟨b, 2, none⟩ = some v2) ∧ (∀ W, Ext w W → W.cell? ⟨b, 3, none⟩ = some v3) ∧ (∀ W, Ext w W → W.cell? ⟨b, 4, none⟩ = some v4) ∧ (∀ W, Ext w W → W.cell? ⟨b, 5, none⟩ = some v5) ∧ (∀ W, Ext w W → W.cell? ⟨b, 6, none⟩ = some v6) ∧ (∀ W, Ext w W → W.cell? ⟨b, 7, none⟩ = some v7) :=
  let ⟨h0, h1, h2, h3, h4, h5, h6, h7, _⟩ := obj_cells h
  ⟨h0, h1, h2, h3, h4, h5, h6, h7⟩
theorem obj_cells9 {w : World} {b : Nat} {v0 v1 v2 v3 v4 v5 v6 v7 v8 : Value} {T : TypeId} {fz : Nat × Nat} (h : w.heap[b]? = some (.cells #[v0, v1, v2, v3, v4, v5, v6, v7, v8] T fz)) :
    (∀ W, Ext w W → W.cell? ⟨b, 0, none⟩ = some v0) ∧ (∀ W, Ext w W → W.cell? ⟨b, 1, none⟩ = some v1) ∧ (∀ W, Ext w W → W.cell? ⟨b, 2, none⟩ = some v2) ∧ (∀ W, Ext w W → W.cell? ⟨b, 3, none⟩ = some v3) ∧ (∀ W, Ext w W → W.cell? ⟨b, 4, none⟩ = some v4) ∧ (∀ W, Ext w W → W.cell? ⟨b, 5, none⟩ = some v5) ∧ (∀ W, Ext w W → W.cell? ⟨b, 6, none⟩ = some v6) ∧ (∀ W, Ext w W → W.cell? ⟨b, 7, none⟩ = some v7) ∧ (∀ W, Ext w W → W.cell? ⟨b, 8, none⟩ = some v8) :=
  let ⟨h0, h1, h2, h3, h4, h5, h6, h7, h8, _⟩ := obj_cells h
  ⟨h0, h1, h2, h3, h4, h5, h6, h7, h8⟩
theorem obj_cells10 {w : World} {b : Nat} {v0 v1 v2 v3 v4 v5 v6 v7 v8 v9 : Value} {T : TypeId} {fz : Nat × Nat} (h : w.heap[b]? = some (.cells #[v0, v1, v2, v3, v4, v5, v6, v7, v8, v9] T fz)) :
    (∀ W, Ext w W → W.cell? ⟨b, 0, none⟩ = some v0) ∧ (∀ W, Ext w W → W.cell? ⟨b, 1, none⟩ = some v1) ∧ (∀ W, Ext w W → W.cell? ⟨b, 2, none⟩ = some v2) ∧ (∀ W, Ext w W → W.cell? ⟨b, 3, none⟩ = some v3) ∧ (∀ W, Ext w W → W.cell? ⟨b, 4, none⟩ = some v4) ∧ (∀ W, Ext w W → W.cell? ⟨b, 5, none⟩ = some v5) ∧ (∀ W, Ext w W → W.cell? ⟨b, 6, none⟩ = some v6) ∧ (∀ W, Ext w W → W.cell? ⟨b, 7, none⟩ = some v7) ∧ (∀ W, Ext w W → W.cell? ⟨b, 8, none⟩ = some v8) ∧ (∀ W, Ext w W → W.cell? ⟨b, 9, none⟩ = some v9) :=
  let ⟨h0, h1, h2, h3, h4, h5, h6, h7, h8, h9, _⟩ := obj_cells h
  ⟨h0, h1, h2, h3, h4, h5, h6, h7, h8, h9⟩
theorem own_empty (w : World) (e : TypeId) (size : Nat) : (w.alloc (.cells #[] e)).ownsRow w.heap.size e size (.slice (some ⟨w.heap.size, 0, none⟩) 0 0) 0 [] := by
  have := World.ownsRow_lit (size := size) (e := e) (base := w.heap.size) w #[] 0 (Nat.le_refl _) (by unfold maxLen; omega) (by simp)
  exact this
/-- All that was there stands, but for the block X. -/
structure ExtX (X : Nat) (w w' : World) : Prop where
  os : w'.os = w.os
  tape : w'.tape = w.tape
  output : w'.output = w.output
  size : w.heap.size ≤ w'.heap.size
  block : ∀ k, k < w.heap.size → k ≠ X → w'.heap[k]? = w.heap[k]?
theorem Ext.x {X : Nat} {w w' : World} (h : Ext w w') : ExtX X w w' := ⟨h.os, h.tape, h.output, h.size, fun k hk _ => Below.block h k hk⟩
theorem ExtX.refl (X : Nat) (w : World) : ExtX X w w := (Ext.refl w).x
theorem ExtX.trans {X : Nat} {a b c : World} (h : ExtX X a b) (k : ExtX X b c) : ExtX X a c :=
  ⟨k.os.trans h.os, k.tape.trans h.tape, k.output.trans h.output, Nat.le_trans h.size k.size, fun i hi hx => (k.block i (Nat.lt_of_lt_of_le hi h.size) hx).trans (h.block i hi hx)⟩
theorem ExtX.ext {X : Nat} {w w' : World} (h : ExtX X w w') (hX : w.heap.size ≤ X) : Ext w w' := ⟨h.os, h.tape, h.output, h.size, fun k hk => h.block k hk (by omega)⟩
theorem ExtX.set {X : Nat} {w W : World} (h : ExtX X w W) (o : Nat) (u : Value) : ExtX X w (W.setCell ⟨X, o, none⟩ u) :=
  h.trans ⟨rfl, rfl, rfl, by simp [World.setCell], fun k hk hx => Below.heap_setCell _ _ _ _ (by simpa using hx)⟩
theorem lt_of_cell {w : World} {p : Addr} {v : Value} (hc : w.cell? p = some v) : p.block < w.heap.size := by
  rcases Nat.lt_or_ge p.block w.heap.size with h1 | h1
  · exact h1
  · simp [World.cell?, Array.getElem?_eq_none h1] at hc
theorem ExtX.cell {X : Nat} {w w' : World} (h : ExtX X w w') {p : Addr} {v : Value} (hc : w.cell? p = some v) (hx : p.block ≠ X) : w'.cell? p = some v := by
  rw [World.cell?_of_block (w := w) (h.block p.block (lt_of_cell hc) hx)]; exact hc

theorem alloc4 {w w1 : World} {o p q r : Obj} (h : (((w.alloc o).alloc p).alloc q).alloc r = w1) : Ext w w1 ∧ w1.heap[w.heap.size]? = some o ∧ w1.heap[w.heap.size + 1]? = some p ∧ w1.heap[w.heap.size + 2]? = some q ∧ w1.heap[w.heap.size + 3]? = some r := by
  obtain ⟨a, b, c, d, e⟩ := alloc3 (w := w) (o := o) (p := p) (q := q) rfl
  subst h
  refine ⟨a.alloc _, ?_, ?_, ?_, ?_⟩
  · rw [heap_old _ _ _ (by rw [e]; omega)]; exact b
  · rw [heap_old _ _ _ (by rw [e]; omega)]; exact c
  · rw [heap_old _ _ _ (by rw [e]; omega)]; exact d
  · have := heap_new (((w.alloc o).alloc p).alloc q) r; rwa [e] at this
theorem ownsRow_lit1 (w : World) (v : Value) (e : TypeId) : (w.alloc (.cells #[v] e)).ownsRow w.heap.size e 1 (.slice (some ⟨w.heap.size, 0, none⟩) 1 1) 1 [v] := by
  have := World.ownsRow_lit (size := 1) (e := e) (base := w.heap.size) w #[v] 1 (Nat.le_refl _) (by unfold maxLen; omega) (by simp)
  exact this
theorem step_app {P : Program} {ops : Array Oper} {o : Oper} {a : Act} {w : World} {K : Act → World → Prop} {Q : Exit → Act → World → Prop} {E : Prop} (hgd : o.guard = none) (s x : Operand) (t : TypeId)
    (ho : o.op = .call { callee := .builtin .append, args := #[s, x], argTypes := #[t, t] }) (v y : Value) (hs : a.eval s = v) (hx : a.eval x = y)
    (R : Value → World → Prop) (hrun : ∃ v' w', (Builtin.append_ #[t, t] o.type #[v, y]).run P w = .ok v' w' ∧ R v' w')
    (h : ∀ v' w', R v' w' → K (a.put o.dst v') w') : if Region.wanted o (yielded ops a.tmps) = true then Oper.wp P o a w K Q else E := by
  have hw : Region.wanted o (yielded ops a.tmps) = true := by simp [Region.wanted, hgd]
  rw [if_pos hw]
  obtain ⟨v', w', hr, hR⟩ := hrun
  unfold Oper.wp execOp
  simp only [ho, resolve, invoke, builtin, Sem.run_bind, Sem.run_pure, Result.andThen_ok, List.map_toArray, List.map_cons, List.map_nil, hs, hx, hr]
  exact h _ _ hR
theorem ownsRow_empty {W : World} {g B : Nat} {e : TypeId} {size : Nat} (hb : W.heap[g]? = some (.cells #[] e (0, 0))) (hB : B ≤ g) : W.ownsRow B e size (.slice (some ⟨g, 0, none⟩) 0 0) 0 [] :=
  ⟨by simp, .inr ⟨g, 0, #[], rfl, hB, hb, Nat.le_refl _, by unfold maxLen; omega, by simp, by simp⟩⟩
/-- Where a slice lies that was appended to one of no element in the block g. -/
def Lies (W : World) (g : Nat) (v : Value) (n : Nat) : Prop := ∃ g' c', v = .slice (some ⟨g', 0, none⟩) n c' ∧ (g' = g ∨ g' = W.heap.size)
theorem run_app0 (W : World) (g B : Nat) (t ty e : TypeId) (i : TypeInfo) (z : Value) (size bytes : Nat) (ht : Tryz.prog.underlying t = some (.slice e)) (hi : Tryz.prog.info? e = some i) (hz : i.zero = some z)
    (hsize : i.size = size) (hby : i.bytes = bytes) (hzs : z.cells.size = size) (hsz : 0 < size) (hb : W.heap[g]? = some (.cells #[] e (0, 0))) (hB : B ≤ g)
    (a : Option Addr) (m c : Nat) (news : List Value) (hl : news.length = m * size) (hnews : Src W a news) (h1 : ∀ u ∈ news, u.oneCell' = true)
    (h63 : m ≤ maxLen) (hbytes : m * bytes ≤ 140737488355328) :
    ∃ v' w', (Builtin.append_ #[t, t] ty #[.slice (some ⟨g, 0, none⟩) 0 0, .slice a m c]).run Tryz.prog W = .ok v' w' ∧ Lies W g v' m ∧ w'.ownsRow B e size v' m news ∧ W.grownBy w' (some g) := by
  have hown := ownsRow_empty (size := size) hb hB
  have hg := lt_of_block hb
  have hgen : ∀ (ad : Addr), a = some ad → (∀ j u, news[j]? = some u → W.cell? (ad.add j) = some u) →
      ∃ v' w', (Builtin.append_ #[t, t] ty #[.slice (some ⟨g, 0, none⟩) 0 0, .slice a m c]).run Tryz.prog W = .ok v' w' ∧ Lies W g v' m ∧ w'.ownsRow B e size v' m news ∧ W.grownBy w' (some g) := by
    rintro ad rfl hc
    obtain ⟨v', w', r1, r2, r3, r4, r5⟩ := run_append_own_at (P := Tryz.prog) W B t ty e i z size bytes ht hi hz hsize hby hzs hsz _ 0 [] hown ad m c news hl hc h1 (by omega) (by rw [Nat.zero_add]; exact hbytes) (by omega)
    rw [Nat.zero_add, List.nil_append] at r2
    refine ⟨v', w', r1, ?_, r2, r3⟩
    rcases r2.2 with ⟨hv, _⟩ | ⟨g', cap, cur, hv, _⟩
    · exact absurd (r4.1 hv).1 (by simp)
    · refine ⟨g', cap, hv, ?_⟩
      subst hv
      simpa [Value.ownBlock] using r5
  rcases hnews with rfl | ⟨ad, ha, hc⟩
  · cases a with
    | some ad => exact hgen ad rfl (fun j u h => by simp at h)
    | none =>
      have hm : m = 0 := by
        have : m * size = 0 := by simpa using hl.symm
        rcases Nat.mul_eq_zero.1 this with h | h
        · exact h
        · omega
      subst hm
      refine ⟨_, W, ?_, ⟨g, 0, rfl, .inl rfl⟩, hown, ⟨rfl, rfl, rfl, Nat.le_refl _, fun _ _ _ => rfl⟩⟩
      simp [Builtin.append_, run_underlying ht, sizeOf, typeInfo, hi, Builtin.lenOf, Builtin.firstCells, storeCells]
  · exact hgen ad ha hc
theorem grown_ext0 {w w1 w' : World} {g : Nat} (he : Ext w w1) (hg : w1.grownBy w' (some g)) (hb : w.heap.size ≤ g) : Ext w w' := Below.grown he hg he.size fun k hk => by cases hk; exact hb
theorem heap_get (w : World) (o : Obj) (k : Nat) : (w.alloc o).heap[k]? = if k = w.heap.size then some o else w.heap[k]? := by
  show (w.heap.push o)[k]? = _
  rw [Array.getElem?_push]
theorem heap_dr (w : World) : w.drew.heap = w.heap := rfl
theorem own_of_block {w w' : World} {B e sz : Nat} {v : Value} {n : Nat} {xs : List Value} (h : w.ownsRow B e sz v n xs) (hk : ∀ k, v.ownBlock = some k → w'.heap[k]? = w.heap[k]?) : w'.ownsRow B e sz v n xs := by
  obtain ⟨h1, h2⟩ := h
  refine ⟨h1, ?_⟩
  rcases h2 with h2 | ⟨g, cap, cur, hv, hg, hh, r⟩
  · exact .inl h2
  · exact .inr ⟨g, cap, cur, hv, hg, (hk g (by rw [hv]; rfl)).trans hh, r⟩
/-- What a call of a vault's leaves: all that was there, but for the vault's own blocks. -/
structure Upd (F : List Nat) (w w' : World) : Prop where
  os : w'.os = w.os
  tape : w'.tape = w.tape
  output : w'.output = w.output
  size : w.heap.size ≤ w'.heap.size
  block : ∀ k, k < w.heap.size → k ∉ F → w'.heap[k]? = w.heap[k]?
theorem Ext.upd {F : List Nat} {w w' : World} (h : Ext w w') : Upd F w w' := ⟨h.os, h.tape, h.output, h.size, fun k hk _ => Below.block h k hk⟩
theorem Upd.trans {F F' : List Nat} {a b c : World} (h : Upd F a b) (k : Upd F' b c) (hF : ∀ x ∈ F', x ∈ F ∨ a.heap.size ≤ x) : Upd F a c :=
  ⟨k.os.trans h.os, k.tape.trans h.tape, k.output.trans h.output, Nat.le_trans h.size k.size, fun i hi hx => (k.block i (Nat.lt_of_lt_of_le hi h.size) (fun q => by
    rcases hF i q with q | q
    · exact hx q
    · omega)).trans (h.block i hi hx)⟩
theorem Upd.refl (F : List Nat) (w : World) : Upd F w w := (Ext.refl w).upd
theorem Upd.set {F : List Nat} {w W : World} (h : Upd F w W) {p : Addr} (hp : p.block ∈ F ∨ w.heap.size ≤ p.block) (u : Value) : Upd F w (W.setCell p u) :=
  ⟨h.os, h.tape, h.output, by simpa [World.setCell] using h.size, fun k hk hx => (Below.heap_setCell _ _ _ _ (fun e => by
    rcases hp with q | q
    · exact hx (e ▸ q)
    · omega)).trans (h.block k hk hx)⟩
theorem Upd.alloc {F : List Nat} {w W : World} (h : Upd F w W) (o : Obj) : Upd F w (W.alloc o) := h.trans (F' := []) (((Ext.refl W).alloc o).upd) (by simp)
theorem Upd.drew {F : List Nat} {w W : World} (h : Upd F w W) : Upd F w W.drew := h.trans (F' := []) (((Ext.refl W).drew).upd) (by simp)
theorem Upd.grown {F : List Nat} {w W W' : World} {row : Option Nat} (h : Upd F w W) (hg : W.grownBy W' row) (hr : ∀ k, row = some k → k ∈ F ∨ w.heap.size ≤ k) : Upd F w W' :=
  h.trans (F' := row.toList) ⟨hg.os, hg.tape, hg.output, hg.size, fun k hk q => hg.block k hk (fun e => q (by rw [← e]; simp))⟩ (fun x hx => hr x (by simpa using hx))
theorem own_base {w : World} {B B' e sz : Nat} {v : Value} {n : Nat} {xs : List Value} (h : w.ownsRow B e sz v n xs) (hb : B' ≤ B) : w.ownsRow B' e sz v n xs := by
  obtain ⟨h1, h2⟩ := h
  refine ⟨h1, ?_⟩
  rcases h2 with h2 | ⟨g, cap, cur, hv, hg, r⟩
  · exact .inl h2
  · exact .inr ⟨g, cap, cur, hv, Nat.le_trans hb hg, r⟩
end Go.Proofs.YtplbofhgmflnlaaGreat
end
section
/-
  Base words: slices of structs (links, entries, results).
-/
set_option linter.unusedVariables false
set_option linter.unusedSimpArgs false
namespace Go.Proofs.YtplbofhgmflnlaaGreat
open Go.RowKit
section
variable {α : Type}
/-- The cells of structs in a row. -/
def rowF (f : α → List Value) (xs : List α) : List Value := xs.flatMap f
theorem rowF_nil (f : α → List Value) : rowF f [] = [] := rfl
theorem rowF_append (f : α → List Value) (xs ys : List α) : rowF f (xs ++ ys) = rowF f xs ++ rowF f ys := by simp [rowF]
theorem rowF_len {f : α → List Value} {sz : Nat} (hf : ∀ x, (f x).length = sz) : ∀ xs : List α, (rowF f xs).length = xs.length * sz
  | [] => by simp [rowF]
  | x :: xs => by
    have := rowF_len hf xs
    simp only [rowF, List.flatMap_cons, List.length_append, List.length_cons, Nat.add_mul, Nat.one_mul, hf] at this ⊢
    omega
theorem rowF_at {f : α → List Value} {sz : Nat} (hf : ∀ x, (f x).length = sz) : ∀ (xs : List α) (i j : Nat) (hi : i < xs.length), j < sz → (rowF f xs)[i * sz + j]? = (f xs[i])[j]?
  | x :: xs, 0, j, _, hj => by
    simp only [rowF, List.flatMap_cons, Nat.zero_mul, Nat.zero_add, List.getElem_cons_zero]
    rw [List.getElem?_append_left (by rw [hf]; exact hj)]
  | x :: xs, i + 1, j, hi, hj => by
    have := rowF_at hf xs i j (by simpa using hi) hj
    simp only [rowF, List.flatMap_cons, List.getElem_cons_succ] at this ⊢
    rw [List.getElem?_append_right (by rw [hf, Nat.add_mul]; omega), hf, ← this]
    congr 1
    rw [Nat.add_mul]; omega
theorem rowF_one {f : α → List Value} (h : ∀ x, ∀ u ∈ f x, u.oneCell' = true) (xs : List α) : ∀ u ∈ rowF f xs, u.oneCell' = true := by
  intro u hu
  obtain ⟨x, -, hx⟩ := List.mem_flatMap.1 hu
  exact h x u hx
/-- A call's own slice of structs. -/
def OwnF (e sz : Nat) (f : α → List Value) (w : World) (B : Nat) (v : Value) (xs : List α) : Prop := w.ownsRow B e sz v xs.length (rowF f xs)
theorem own_ext {w w' : World} {B e sz : Nat} {v : Value} {n : Nat} {xs : List Value} (h : w.ownsRow B e sz v n xs) (k : Ext w w') : w'.ownsRow B e sz v n xs :=
  own_of_block h fun g hg => Below.block k g (h.lt g hg).2
theorem OwnF.ext {e sz : Nat} {f : α → List Value} {w w' : World} {B : Nat} {v : Value} {xs : List α} (h : OwnF e sz f w B v xs) (k : Ext w w') : OwnF e sz f w' B v xs := own_ext h k
theorem OwnF.cell {e sz : Nat} {f : α → List Value} (hf : ∀ x, (f x).length = sz) {w : World} {B : Nat} {a : Option Addr} {n c : Nat} {xs : List α} (h : OwnF e sz f w B (.slice a n c) xs) (i : Nat) (hi : i < xs.length) :
    ∃ g, a = some ⟨g, 0, none⟩ ∧ B ≤ g ∧ g < w.heap.size ∧ ∀ j, j < sz → w.cell? ⟨g, i * sz + j, none⟩ = (f xs[i])[j]? := by
  have h0 := h
  obtain ⟨h1, h2⟩ := h
  rcases h2 with ⟨hv, hn⟩ | ⟨g, cap, cur, hv, hg, hh, hnc, hcm, hs, ht⟩
  · omega
  · simp only [Value.slice.injEq] at hv
    obtain ⟨rfl, rfl, rfl⟩ := hv
    refine ⟨g, rfl, hg, lt_of_block hh, fun j hj => ?_⟩
    have hlt : i * sz + j < xs.length * sz := by
      have : (i + 1) * sz ≤ xs.length * sz := Nat.mul_le_mul_right _ hi
      rw [Nat.add_mul] at this; omega
    have h3 : (cur.toList.take (xs.length * sz))[i * sz + j]? = cur.toList[i * sz + j]? := by rw [List.getElem?_take, if_pos hlt]
    rw [ht, rowF_at hf xs i j hi hj] at h3
    simp only [World.cell?, hh, Option.isSome_none, Bool.false_eq_true, if_false]
    rw [← Array.getElem?_toList, ← h3]
theorem OwnF.lens {e sz : Nat} {f : α → List Value} {w : World} {B : Nat} {a : Option Addr} {n c : Nat} {xs : List α} (h : OwnF e sz f w B (.slice a n c) xs) : n = xs.length ∧ n ≤ c := by
  rcases h.2 with ⟨hv, hn⟩ | ⟨g, cap, cur, hv, hg, hh, hnc, hcm, hs, ht⟩
  · simp only [Value.slice.injEq] at hv
    exact ⟨by omega, by omega⟩
  · simp only [Value.slice.injEq] at hv
    exact ⟨by omega, by omega⟩
theorem OwnF.nil (e sz : Nat) (f : α → List Value) (w : World) (B : Nat) : OwnF e sz f w B (.slice none 0 0) ([] : List α) := ⟨by simp [rowF], .inl ⟨by simp, by simp⟩⟩
/-- 'append(v, x)' of one struct that lies in a block of its own. -/
theorem app_struct (t ty e : TypeId) {i0 : TypeInfo} {z : Value} {sz bytes : Nat} (f : α → List Value) (hf : ∀ x, (f x).length = sz) (hone : ∀ x, ∀ u ∈ f x, u.oneCell' = true) (hsz : 0 < sz)
    (ht : Tryz.prog.underlying t = some (.slice e)) (hi : Tryz.prog.info? e = some i0) (hz0 : i0.zero = some z) (hz1 : i0.size = sz) (hz2 : i0.bytes = bytes) (hzs : z.cells.size = sz) (hby : bytes ≤ 1000)
    (w : World) (B : Nat) (v : Value) (xs : List α) (hv : OwnF e sz f w B v xs) (x : α) (g : Nat) (hg : w.heap[g]? = some (.cells (f x).toArray e (0, 0))) (hn : xs.length ≤ 1000000) (hB : B ≤ w.heap.size) :
    ∃ v' w', (Builtin.append_ #[t, t] ty #[v, .slice (some ⟨g, 0, none⟩) 1 1]).run Tryz.prog w = .ok v' w' ∧ OwnF e sz f w' B v' (xs ++ [x]) ∧ w.grownBy w' v.ownBlock ∧ (v'.ownBlock = v.ownBlock ∨ v'.ownBlock = some w.heap.size) := by
  obtain ⟨v', w', r1, r2, r3, r4, r5⟩ := run_append_own_at (P := Tryz.prog) w B t ty e i0 z sz bytes ht hi hz0 hz1 hz2 hzs hsz v xs.length (rowF f xs) hv ⟨g, 0, none⟩ 1 1 (f x) (by rw [hf]; omega)
    (fun j u hj => by
      rw [Addr.add_lit]
      simp only [World.cell?, hg, Option.isSome_none, Bool.false_eq_true, if_false, Nat.zero_add]
      rw [← hj]; simp) (hone x) (by unfold maxLen; omega) (Nat.le_trans (Nat.mul_le_mul (show xs.length + 1 ≤ 1000001 by omega) hby) (by omega)) hB
  refine ⟨v', w', r1, ?_, r3, r5⟩
  unfold OwnF
  rw [rowF_append, List.length_append]
  have : rowF f [x] = f x := by simp [rowF]
  rw [this]
  exact r2
end
end Go.Proofs.YtplbofhgmflnlaaGreat
end
section
/-
  The laws for drawn regions (as in this repo's wip/hall/B10).
-/
section
/-
  A region that draws its order, whose operations leave what was there: whatever its order, each operation's value is what is said of it.
-/
set_option linter.unusedVariables false
set_option linter.unusedSimpArgs false
namespace Go.Proofs.YtplbofhgmflnlaaGreat
open Go Go.RowKit
def howMany (q : Nat → Bool) : Nat → Nat
  | 0 => 0
  | n + 1 => howMany q n + if q n then 1 else 0
theorem howMany_same (q : Nat → Bool) (k : Nat) : ∀ n, n ≤ k → howMany (fun i => q i && !(i == k)) n = howMany q n
  | 0, _ => rfl
  | n + 1, h => by
    simp only [howMany, howMany_same q k n (by omega)]
    have : (n == k) = false := by simp; omega
    simp [this]
theorem howMany_less (q : Nat → Bool) (k : Nat) (hq : q k = true) : ∀ n, k < n → howMany q n = howMany (fun i => q i && !(i == k)) n + 1
  | 0, h => by omega
  | n + 1, h => by
    by_cases e : k = n
    · subst e
      have := howMany_same q k k (Nat.le_refl _)
      simp [howMany, this, hq]
    · have := howMany_less q k hq n (by omega)
      simp only [howMany, this]
      have h2 : (n == k) = false := by simp; omega
      simp [h2]; omega
/-- The values of a region's operations, put in their order. -/
def putAll : List Oper → Nat → (Nat → Value) → Act → Act
  | [], _, _, a => a
  | o :: os, k, vs, a => putAll os (k + 1) vs (a.put o.dst (vs k))
/-- Each waits only for those ahead of it. -/
def topoB (ops : Array Oper) : Bool := (List.range ops.size).all fun j => ((ops[j]?).map fun o => o.after.all fun e => !Region.binds .any e || decide (e.on < j)).getD true
/-- No two write the same slot, and each slot is one of n. -/
def dstB (n : Nat) (ops : Array Oper) : Bool :=
  (List.range ops.size).all fun j => match (ops[j]?).bind (·.dst) with
    | none => true
    | some d => decide (d < n) && (List.range ops.size).all fun k => decide (k = j) || !((ops[k]?).bind (·.dst) == some d)
structure MInv (ops : Array Oper) (φ : Nat → Value → World → Prop) (a0 : Act) (w0 : World) (listed : Array Bool) (a : Act) (w : World) : Prop where
  ext : Ext w0 w
  lsz : listed.size = ops.size
  size : a.tmps.size = a0.tmps.size
  defers : a.defers = a0.defers
  closed : ∀ j o, ops[j]? = some o → listed.getD j false = true → ∀ e ∈ o.after, Region.binds .any e = true → listed.getD e.on false = true
  old : ∀ t, (∀ j o, ops[j]? = some o → listed.getD j false = true → o.dst ≠ some t) → a.tmps[t]? = a0.tmps[t]?
  new : ∀ j o d, ops[j]? = some o → listed.getD j false = true → o.dst = some d → φ j (a.tmps.getD d undef) w
theorem getD_set' (l : Array Bool) (i j : Nat) (b : Bool) (hi : i < l.size) : (l.setIfInBounds i true).getD j b = if j = i then true else l.getD j b := by
  by_cases h : j = i
  · subst h
    simp [hi]
  · rw [if_neg h]
    simp only [Array.getD_eq_getD_getElem?]
    rw [Array.getElem?_setIfInBounds_ne (fun e => h e.symm)]
theorem ready_iff {ops : Array Oper} {listed : Array Bool} {i : Nat} : i ∈ Region.ready .any ops listed ↔ i < ops.size ∧ listed.getD i true = false ∧ ∀ o, ops[i]? = some o → ∀ e ∈ o.after, Region.binds .any e = true → listed.getD e.on false = true := by
  unfold Region.ready
  rw [List.mem_filter, List.mem_range]
  simp only [Bool.and_eq_true, Bool.not_eq_true']
  constructor
  · rintro ⟨h1, h2, h3⟩
    refine ⟨h1, h2, fun o ho e he hb => ?_⟩
    rw [ho] at h3
    simp only [Option.map_some, Option.getD_some, Array.all_eq_true_iff_forall_mem] at h3
    have := h3 e he
    simp only [hb, Bool.not_true, Bool.false_or] at this
    exact this
  · rintro ⟨h1, h2, h3⟩
    refine ⟨h1, h2, ?_⟩
    have ho : ops[i]? = some ops[i] := Array.getElem?_eq_getElem h1
    rw [ho]
    simp only [Option.map_some, Option.getD_some, Array.all_eq_true_iff_forall_mem]
    intro e he
    cases hb : Region.binds .any e with
    | false => rfl
    | true => simpa using h3 _ ho e he hb
section
variable {P : Program} {Q : Exit → Act → World → Prop} {ops : Array Oper} {φ : Nat → Value → World → Prop} {a0 : Act} {w0 : World}
theorem topo_lt (ht : topoB ops = true) {j : Nat} {o : Oper} (ho : ops[j]? = some o) {e : Edge} (he : e ∈ o.after) (hb : Region.binds .any e = true) : e.on < j := by
  unfold topoB at ht
  rw [List.all_eq_true] at ht
  have hj : j < ops.size := (Array.getElem?_eq_some_iff.1 ho).1
  have := ht j (List.mem_range.2 hj)
  rw [ho] at this
  simp only [Option.map_some, Option.getD_some, Array.all_eq_true_iff_forall_mem] at this
  have := this e he
  rw [hb] at this
  simpa using this
theorem dst_of (n : Nat) (hd : dstB n ops = true) {j : Nat} {o : Oper} {d : Tmp} (ho : ops[j]? = some o) (hod : o.dst = some d) : d < n ∧ ∀ k o', ops[k]? = some o' → o'.dst = some d → k = j := by
  unfold dstB at hd
  rw [List.all_eq_true] at hd
  have hj : j < ops.size := (Array.getElem?_eq_some_iff.1 ho).1
  have h1 := hd j (List.mem_range.2 hj)
  simp only [ho, Option.bind_some, hod, Bool.and_eq_true, decide_eq_true_eq, List.all_eq_true] at h1
  refine ⟨h1.1, fun k o' hk hkd => ?_⟩
  have hkj : k < ops.size := (Array.getElem?_eq_some_iff.1 hk).1
  have h2 := h1.2 k (List.mem_range.2 hkj)
  simp only [hk, Option.bind_some, hkd, Bool.or_eq_true, decide_eq_true_eq] at h2
  rcases h2 with h2 | h2
  · exact h2
  · simp at h2
theorem put_tmps_ne (a : Act) (o : Option Tmp) (v : Value) (t : Nat) (h : o ≠ some t) : (a.put o v).tmps[t]? = a.tmps[t]? := by
  cases o with
  | none => rfl
  | some d =>
    show (a.tmps.setIfInBounds d v)[t]? = _
    exact Array.getElem?_setIfInBounds_ne (fun e => h (by rw [e]))
theorem put_tmps_eq (a : Act) (d : Nat) (v : Value) (h : d < a.tmps.size) : (a.put (some d) v).tmps[d]? = some v := by
  show (a.tmps.setIfInBounds d v)[d]? = _
  simp [h]
theorem put_size (a : Act) (o : Option Tmp) (v : Value) : (a.put o v).tmps.size = a.tmps.size := by
  cases o <;> simp [Act.put]
theorem put_defers (a : Act) (o : Option Tmp) (v : Value) : (a.put o v).defers = a.defers := by
  cases o <;> rfl
theorem MInv.step (hd : dstB a0.tmps.size ops = true) (hmono : ∀ j v w w', Ext w w' → φ j v w → φ j v w') {listed : Array Bool} {a : Act} {w : World} (h : MInv ops φ a0 w0 listed a w) {i : Nat} {o : Oper} (ho : ops[i]? = some o)
    (hi : i ∈ Region.ready .any ops listed) {v : Value} {w' : World} (he : Ext w w') (hv : φ i v w') : MInv ops φ a0 w0 (listed.setIfInBounds i true) (a.put o.dst v) w' := by
  obtain ⟨r1, r2, r3⟩ := ready_iff.1 hi
  have hil : i < listed.size := by rw [h.lsz]; exact r1
  refine ⟨h.ext.trans he, by simp [h.lsz], by rw [put_size]; exact h.size, by rw [put_defers]; exact h.defers, fun j o' hj hl e he' hb => ?_, fun t ht => ?_, fun j o' d hj hl hjd => ?_⟩
  · rw [getD_set' _ _ _ _ hil] at hl ⊢
    split
    · rfl
    · by_cases hji : j = i
      · subst hji
        exact r3 o' hj e he' hb
      · rw [if_neg hji] at hl
        exact h.closed j o' hj hl e he' hb
  · have h1 : o.dst ≠ some t := ht i o ho (by rw [getD_set' _ _ _ _ hil, if_pos rfl])
    rw [put_tmps_ne _ _ _ _ h1]
    refine h.old t fun j o' hj hl => ht j o' hj ?_
    rw [getD_set' _ _ _ _ hil]
    split
    · rfl
    · exact hl
  · by_cases hji : j = i
    · subst hji
      rw [ho] at hj
      obtain rfl : o = o' := by simpa using hj
      have hlt : d < a.tmps.size := by rw [h.size]; exact (dst_of _ hd ho hjd).1
      rw [hjd, Array.getD_eq_getD_getElem?, put_tmps_eq _ _ _ hlt]
      exact hv
    · rw [getD_set' _ _ _ _ hil, if_neg hji] at hl
      have hne : o.dst ≠ some d := fun e => hji ((dst_of _ hd ho e).2 j o' hj hjd)
      rw [Array.getD_eq_getD_getElem?, put_tmps_ne _ _ _ _ hne, ← Array.getD_eq_getD_getElem?]
      exact hmono _ _ _ _ he (h.new j o' d hj hl hjd)
theorem all_listed (ht : topoB ops = true) {listed : Array Bool} (hsz : listed.size = ops.size) (hr : Region.ready .any ops listed = []) : ∀ n j, j < n → j < ops.size → listed.getD j false = true
  | 0, j, h, _ => by omega
  | n + 1, j, h, hj => by
    have ih := all_listed ht hsz hr n
    refine Classical.byContradiction fun hn => ?_
    have hmem : j ∈ Region.ready .any ops listed := by
      rw [ready_iff]
      refine ⟨hj, ?_, fun o ho e he hb => ?_⟩
      · have hjl : j < listed.size := by omega
        have : listed.getD j true = listed.getD j false := by simp [Array.getD_eq_getD_getElem?, hjl]
        rw [this]; simpa using hn
      · have := topo_lt ht ho he hb
        have hjs : j < ops.size := hj
        exact ih e.on (by omega) (by omega)
    rw [hr] at hmem
    cases hmem
theorem putAll_size : ∀ (os : List Oper) (k : Nat) (vs : Nat → Value) (a : Act), (putAll os k vs a).tmps.size = a.tmps.size ∧ (putAll os k vs a).defers = a.defers
  | [], _, _, _ => ⟨rfl, rfl⟩
  | o :: os, k, vs, a => by
    have := putAll_size os (k + 1) vs (a.put o.dst (vs k))
    rw [put_size, put_defers] at this
    exact this
theorem putAll_ne : ∀ (os : List Oper) (k : Nat) (vs : Nat → Value) (a : Act) (t : Nat), (∀ o ∈ os, o.dst ≠ some t) → (putAll os k vs a).tmps[t]? = a.tmps[t]?
  | [], _, _, _, _, _ => rfl
  | o :: os, k, vs, a, t, h => by
    show (putAll os (k + 1) vs (a.put o.dst (vs k))).tmps[t]? = _
    rw [putAll_ne os (k + 1) vs _ t (fun o' ho' => h o' (by simp [ho'])), put_tmps_ne _ _ _ _ (h o (by simp))]
theorem putAll_at : ∀ (os : List Oper) (k : Nat) (vs : Nat → Value) (a : Act) (i : Nat) (o : Oper) (d : Nat), os[i]? = some o → o.dst = some d → d < a.tmps.size → (∀ j o', os[j]? = some o' → o'.dst = some d → j = i) → (putAll os k vs a).tmps[d]? = some (vs (k + i))
  | [], _, _, _, _, _, _, h, _, _, _ => by simp at h
  | o :: os, k, vs, a, 0, o1, d, h, hd, hlt, hu => by
    simp only [List.getElem?_cons_zero, Option.some.injEq] at h
    subst h
    show (putAll os (k + 1) vs (a.put o.dst (vs k))).tmps[d]? = _
    rw [putAll_ne os (k + 1) vs _ d (fun o' ho' e => ?_), hd, put_tmps_eq _ _ _ hlt]
    · simp
    · obtain ⟨j, hj, rfl⟩ := List.getElem_of_mem ho'
      have := hu (j + 1) os[j] (by simp [hj]) e
      omega
  | o :: os, k, vs, a, i + 1, o1, d, h, hd, hlt, hu => by
    simp only [List.getElem?_cons_succ] at h
    show (putAll os (k + 1) vs (a.put o.dst (vs k))).tmps[d]? = _
    rw [putAll_at os (k + 1) vs _ i o1 d h hd (by rw [put_size]; exact hlt) (fun j o' hj e => by have := hu (j + 1) o' (by simpa using hj) e; omega)]
    congr 2; omega
theorem act_ext {a b : Act} (h1 : a.tmps = b.tmps) (h2 : a.defers = b.defers) : a = b := by
  cases a; cases b; simp only at h1 h2; subst h1; subst h2; rfl
theorem MInv.fin (hd : dstB a0.tmps.size ops = true) {listed : Array Bool} {a : Act} {w : World} (h : MInv ops φ a0 w0 listed a w) (hall : ∀ j, j < ops.size → listed.getD j false = true) :
    ∃ vs : Nat → Value, a = putAll ops.toList 0 vs a0 ∧ ∀ (j : Nat) (o : Oper), ops[j]? = some o → o.dst ≠ none → φ j (vs j) w := by
  refine ⟨fun j => match (ops[j]?).bind (·.dst) with | some d => a.tmps.getD d undef | none => undef, act_ext ?_ ?_, fun j o hj hn => ?_⟩
  · apply Array.ext_getElem?
    intro t
    by_cases hex : ∃ (j : Nat) (o : Oper), ops[j]? = some o ∧ o.dst = some t
    · obtain ⟨j, o, hj, hjd⟩ := hex
      have hdd := dst_of _ hd hj hjd
      have hjs : j < ops.size := (Array.getElem?_eq_some_iff.1 hj).1
      rw [putAll_at ops.toList 0 _ a0 j o t (by simpa using hj) hjd hdd.1 (fun k o' hk e => hdd.2 k o' (by simpa using hk) e)]
      simp only [Nat.zero_add, hj, Option.bind_some, hjd]
      have hlt : t < a.tmps.size := by rw [h.size]; exact hdd.1
      simp [Array.getD_eq_getD_getElem?, hlt]
    · rw [putAll_ne ops.toList 0 _ a0 t (fun o ho e => hex ?_)]
      · exact h.old t fun j o hj _ e => hex ⟨j, o, hj, e⟩
      · obtain ⟨j, hj, rfl⟩ := List.getElem_of_mem ho
        exact ⟨j, _, by simp, e⟩
  · rw [(putAll_size _ _ _ _).2]; exact h.defers
  · have hjs : j < ops.size := (Array.getElem?_eq_some_iff.1 hj).1
    cases hjd : o.dst with
    | none => exact absurd hjd hn
    | some d =>
      simp only [hj, Option.bind_some, hjd]
      exact h.new j o d hj (hall j hjs) hjd
theorem wpAny_mono (ht : topoB ops = true) (hd : dstB a0.tmps.size ops = true) (hmono : ∀ j v w w', Ext w w' → φ j v w → φ j v w')
    (hstep : ∀ (i : Nat) (o : Oper), ops[i]? = some o → ∀ (a : Act) (w : World), Ext w0 w → (∀ t : Nat, (∀ (j : Nat) (o' : Oper), ops[j]? = some o' → o'.dst = some t → ∃ e ∈ o'.after, Region.binds .any e = true ∧ e.on = i) → a.tmps[t]? = a0.tmps[t]?) →
      (∀ e ∈ o.after, Region.binds .any e = true → ∀ (o' : Oper) (d : Nat), ops[e.on]? = some o' → o'.dst = some d → φ e.on (a.tmps.getD d undef) w) →
      ∀ K : Act → World → Prop, (∀ v w', Ext w w' → φ i v w' → K (a.put o.dst v) w') → if Region.wanted o (yielded ops a.tmps) = true then Oper.wp P o a w K Q else K (a.put o.dst undef) w)
    (hend : ∀ (vs : Nat → Value) (w : World), Ext w0 w → (∀ (j : Nat) (o : Oper), ops[j]? = some o → o.dst ≠ none → φ j (vs j) w) → Q .normal (putAll ops.toList 0 vs a0) w) :
    ∀ (fuel : Nat) (listed : Array Bool) (a : Act) (w : World), MInv ops φ a0 w0 listed a w → howMany (fun i => !listed.getD i true) ops.size ≤ fuel → wpAny P .any ops Q fuel listed a w
  | fuel, listed, a, w, h, hf => by
    have hfin : Region.ready .any ops listed = [] → Q .normal a w := fun hr => by
      obtain ⟨vs, e1, e2⟩ := h.fin hd (fun j hj => all_listed ht h.lsz hr (j + 1) j (by omega) hj)
      rw [e1]
      exact hend vs w h.ext e2
    match fuel, hf with
    | 0, hf =>
      have hr : Region.ready .any ops listed = [] := by
        cases hrr : Region.ready .any ops listed with
        | nil => rfl
        | cons i rs =>
          have hi : i ∈ Region.ready .any ops listed := by rw [hrr]; simp
          obtain ⟨r1, r2, r3⟩ := ready_iff.1 hi
          have := howMany_less (fun i => !listed.getD i true) i (by simp [r2]) ops.size r1
          omega
      exact ⟨hr, hfin hr⟩
    | fuel + 1, hf =>
      refine ⟨hfin, fun i hi => ?_⟩
      obtain ⟨r1, r2, r3⟩ := ready_iff.1 hi
      have ho : ops[i]? = some ops[i] := Array.getElem?_eq_getElem r1
      have hil : i < listed.size := by rw [h.lsz]; exact r1
      have hcount : howMany (fun j => !(listed.setIfInBounds i true).getD j true) ops.size ≤ fuel := by
        have h1 := howMany_less (fun i => !listed.getD i true) i (by simp [r2]) ops.size r1
        have h2 : (fun j => !(listed.setIfInBounds i true).getD j true) = fun j => (!listed.getD j true) && !(j == i) := by
          funext j
          rw [getD_set' _ _ _ _ hil]
          by_cases hji : j = i
          · simp [hji]
          · simp [hji]
        rw [h2]; omega
      refine wpOp_mono (K := fun a' w' => MInv ops φ a0 w0 (listed.setIfInBounds i true) a' w') (fun a' w' hI => wpAny_mono ht hd hmono hstep hend fuel _ a' w' hI hcount) ?_
      refine wpOp_step ho fun K hK => hstep i _ ho a w h.ext (fun t htt => h.old t fun j o' hj hl e => ?_) (fun e he hb o' d hoo hdd => h.new e.on o' d hoo (r3 _ ho e he hb) hdd) K (fun v w' he hv => hK _ _ (h.step hd hmono ho hi he hv))
      obtain ⟨e', he', hb', hei⟩ := htt j o' hj e
      have := h.closed j o' hj hl e' he' hb'
      rw [hei] at this
      have h3 : listed.getD i true = true := by simp [Array.getD_eq_getD_getElem?, hil] at this ⊢; exact this
      rw [h3] at r2; cases r2
/-- THE LAW: each operation's value is what is said of it, whatever the order. -/
theorem wp_region_said {id : Nat} (φ : Nat → Value → World → Prop) (hm : P.follows .mixedOrders = true) (ht : topoB ops = true) (hd : dstB a0.tmps.size ops = true) (hmono : ∀ j v w w', Ext w w' → φ j v w → φ j v w')
    (hstep : ∀ (i : Nat) (o : Oper), ops[i]? = some o → ∀ (a : Act) (w : World), Ext w0 w → (∀ t : Nat, (∀ (j : Nat) (o' : Oper), ops[j]? = some o' → o'.dst = some t → ∃ e ∈ o'.after, Region.binds .any e = true ∧ e.on = i) → a.tmps[t]? = a0.tmps[t]?) →
      (∀ e ∈ o.after, Region.binds .any e = true → ∀ (o' : Oper) (d : Nat), ops[e.on]? = some o' → o'.dst = some d → φ e.on (a.tmps.getD d undef) w) →
      ∀ K : Act → World → Prop, (∀ v w', Ext w w' → φ i v w' → K (a.put o.dst v) w') → if Region.wanted o (yielded ops a.tmps) = true then Oper.wp P o a w K Q else K (a.put o.dst undef) w)
    (hend : ∀ (vs : Nat → Value) (w : World), Ext w0 w → (∀ (j : Nat) (o : Oper), ops[j]? = some o → o.dst ≠ none → φ j (vs j) w) → Q .normal (putAll ops.toList 0 vs a0) w) : (Code.region id ops true).wp P Q a0 w0 := by
  refine wp_region_any hm (wpAny_mono ht hd hmono hstep hend _ _ _ _ ⟨(Ext.refl w0).drew, by simp, rfl, rfl, fun j o hj hl => ?_, fun t _ => rfl, fun j o d hj hl => ?_⟩ ?_)
  · have hj' : j < ops.size := (Array.getElem?_eq_some_iff.1 hj).1
    simp [hj'] at hl
  · have hj' : j < ops.size := (Array.getElem?_eq_some_iff.1 hj).1
    simp [hj'] at hl
  · have : ∀ n (q : Nat → Bool), howMany q n ≤ n := fun n q => by
      induction n with
      | zero => exact Nat.le_refl _
      | succ n ih => simp only [howMany]; split <;> omega
    exact this _ _
/-- Whoever writes the slot t waits for the operation i. -/
def oldB (ops : Array Oper) (i t : Nat) : Bool := (List.range ops.size).all fun j => match ops[j]? with
  | some o => !(o.dst == some t) || o.after.any fun e => Region.binds .any e && e.on == i
  | none => true
/-- What is asked of one operation. -/
def StepOK (P : Program) (Q : Exit → Act → World → Prop) (ops : Array Oper) (φ : Nat → Value → World → Prop) (a0 : Act) (w0 : World) (i : Nat) (o : Oper) : Prop :=
  ∀ (a : Act) (w : World), Ext w0 w → (∀ t : Nat, oldB ops i t = true → a.tmps[t]?.getD undef = a0.tmps[t]?.getD undef) →
    (∀ (j : Nat) (d : Nat), (o.after.any fun e => Region.binds .any e && e.on == j) = true → (ops[j]?).bind (·.dst) = some d → φ j (a.tmps[d]?.getD undef) w) →
    ∀ K : Act → World → Prop, (∀ v w', Ext w w' → φ i v w' → K (a.put o.dst v) w') → if Region.wanted o (yielded ops a.tmps) = true then Oper.wp P o a w K Q else K (a.put o.dst undef) w
def StepsOK (P : Program) (Q : Exit → Act → World → Prop) (ops : Array Oper) (φ : Nat → Value → World → Prop) (a0 : Act) (w0 : World) : List Oper → Nat → Prop
  | [], _ => True
  | o :: os, i => StepOK P Q ops φ a0 w0 i o ∧ StepsOK P Q ops φ a0 w0 os (i + 1)
theorem steps_at : ∀ (os : List Oper) (k : Nat), StepsOK P Q ops φ a0 w0 os k → ∀ (i : Nat) (o : Oper), os[i]? = some o → StepOK P Q ops φ a0 w0 (k + i) o
  | [], _, _, i, o, h => by simp at h
  | o1 :: os, k, h, 0, o, ho => by
    simp only [List.getElem?_cons_zero, Option.some.injEq] at ho
    subst ho; exact h.1
  | o1 :: os, k, h, i + 1, o, ho => by
    simp only [List.getElem?_cons_succ] at ho
    have := steps_at os (k + 1) h.2 i o ho
    rwa [show k + 1 + i = k + (i + 1) by omega] at this
/-- THE LAW, its operations one after another. -/
theorem wp_region_said2 {id : Nat} (φ : Nat → Value → World → Prop) {l : List Oper} (hm : P.follows .mixedOrders = true) (ht : topoB l.toArray = true) (hd : dstB a0.tmps.size l.toArray = true) (hmono : ∀ j v w w', Ext w w' → φ j v w → φ j v w')
    (hstep : StepsOK P Q l.toArray φ a0 w0 l 0)
    (hend : ∀ (vs : Nat → Value) (w : World), Ext w0 w → (∀ j : Nat, (((l.toArray)[j]?).bind (·.dst)).isSome = true → φ j (vs j) w) → Q .normal (putAll l 0 vs a0) w) : (Code.region id l.toArray true).wp P Q a0 w0 := by
  refine wp_region_said φ hm ht hd hmono (fun i o ho a w hw hold hdep K hK => ?_) (fun vs w hw hφ => ?_)
  · have hs := steps_at l 0 hstep i o (by simpa using ho)
    rw [Nat.zero_add] at hs
    refine hs a w hw (fun t htB => ?_) (fun j d hj hjd => ?_) K hK
    · have := hold t fun j o' hj e => by
        unfold oldB at htB
        rw [List.all_eq_true] at htB
        have hjs : j < l.toArray.size := (Array.getElem?_eq_some_iff.1 hj).1
        have h1 := htB j (List.mem_range.2 hjs)
        simp only [hj, e, beq_self_eq_true, Bool.not_true, Bool.false_or] at h1
        rw [Array.any_eq_true'] at h1
        obtain ⟨e', he', hb⟩ := h1
        simp only [Bool.and_eq_true, beq_iff_eq] at hb
        exact ⟨e', he', hb.1, hb.2⟩
      rw [this]
    · rw [Array.any_eq_true'] at hj
      obtain ⟨e', he', hb⟩ := hj
      simp only [Bool.and_eq_true, beq_iff_eq] at hb
      obtain ⟨hb1, rfl⟩ := hb
      cases ho' : l.toArray[e'.on]? with
      | none => rw [ho'] at hjd; cases hjd
      | some o' =>
        rw [ho'] at hjd
        have := hdep e' he' hb1 o' d ho' hjd
        rwa [Array.getD_eq_getD_getElem?] at this
  · refine hend vs w hw fun j hj => ?_
    cases ho : l.toArray[j]? with
    | none => rw [ho] at hj; cases hj
    | some o =>
      refine hφ j o ho fun e => ?_
      rw [ho, Option.bind_some, e] at hj
      cases hj
end
end Go.Proofs.YtplbofhgmflnlaaGreat
end
section
/-
  A region that draws its order and stores: a word about the world that each operation keeps, turns, or needs.
-/
set_option linter.unusedVariables false
set_option linter.unusedSimpArgs false
namespace Go.Proofs.YtplbofhgmflnlaaGreat
open Go Go.RowKit
structure NInv (ops : Array Oper) (φ : Nat → Value → World → Prop) (J : (Nat → Bool) → (Nat → Value) → World → Prop) (a0 : Act) (listed : Array Bool) (vs : Nat → Value) (a : Act) (w : World) : Prop where
  inv : J (fun j => listed.getD j false) vs w
  lsz : listed.size = ops.size
  size : a.tmps.size = a0.tmps.size
  defers : a.defers = a0.defers
  closed : ∀ j o, ops[j]? = some o → listed.getD j false = true → ∀ e ∈ o.after, Region.binds .any e = true → listed.getD e.on false = true
  old : ∀ t, (∀ j o, ops[j]? = some o → listed.getD j false = true → o.dst ≠ some t) → a.tmps[t]? = a0.tmps[t]?
  new : ∀ j o d, ops[j]? = some o → listed.getD j false = true → o.dst = some d → a.tmps.getD d undef = vs j ∧ φ j (vs j) w
/-- What is asked of one operation: 'ls' tells which are done. -/
def StepOK3 (P : Program) (Q : Exit → Act → World → Prop) (ops : Array Oper) (φ : Nat → Value → World → Prop) (J : (Nat → Bool) → (Nat → Value) → World → Prop) (a0 : Act) (i : Nat) (o : Oper) : Prop :=
  ∀ (ls : Nat → Bool) (vs : Nat → Value) (a : Act) (w : World), ls i = false → J ls vs w → (∀ t : Nat, oldB ops i t = true → a.tmps[t]?.getD undef = a0.tmps[t]?.getD undef) →
    (∀ (j : Nat) (d : Nat), (o.after.any fun e => Region.binds .any e && e.on == j) = true → (ops[j]?).bind (·.dst) = some d → ls j = true ∧ a.tmps[d]?.getD undef = vs j ∧ φ j (vs j) w) →
    (∀ j : Nat, (o.after.any fun e => Region.binds .any e && e.on == j) = true → ls j = true) →
    (∀ i' j : Nat, ls i' = true → (((ops[i']?).map fun o' => o'.after.any fun e => Region.binds .any e && e.on == j).getD false) = true → ls j = true) →
    ∀ K : Act → World → Prop, (∀ v w', (∀ j u, ls j = true → φ j u w → φ j u w') → J (fun j => if j = i then true else ls j) (fun j => if j = i then v else vs j) w' → φ i v w' → K (a.put o.dst v) w') → if Region.wanted o (yielded ops a.tmps) = true then Oper.wp P o a w K Q else K (a.put o.dst undef) w
def StepsOK3 (P : Program) (Q : Exit → Act → World → Prop) (ops : Array Oper) (φ : Nat → Value → World → Prop) (J : (Nat → Bool) → (Nat → Value) → World → Prop) (a0 : Act) : List Oper → Nat → Prop
  | [], _ => True
  | o :: os, i => StepOK3 P Q ops φ J a0 i o ∧ StepsOK3 P Q ops φ J a0 os (i + 1)
section
variable {P : Program} {Q : Exit → Act → World → Prop} {ops : Array Oper} {φ : Nat → Value → World → Prop} {J : (Nat → Bool) → (Nat → Value) → World → Prop} {a0 : Act} {w0 : World}
theorem steps_at3 : ∀ (os : List Oper) (k : Nat), StepsOK3 P Q ops φ J a0 os k → ∀ (i : Nat) (o : Oper), os[i]? = some o → StepOK3 P Q ops φ J a0 (k + i) o
  | [], _, _, i, o, h => by simp at h
  | o1 :: os, k, h, 0, o, ho => by
    simp only [List.getElem?_cons_zero, Option.some.injEq] at ho
    subst ho; exact h.1
  | o1 :: os, k, h, i + 1, o, ho => by
    simp only [List.getElem?_cons_succ] at ho
    have := steps_at3 os (k + 1) h.2 i o ho
    rwa [show k + 1 + i = k + (i + 1) by omega] at this
theorem NInv.step (hd : dstB a0.tmps.size ops = true) {listed : Array Bool} {vs : Nat → Value} {a : Act} {w : World} (h : NInv ops φ J a0 listed vs a w) {i : Nat} {o : Oper} (ho : ops[i]? = some o)
    (hi : i ∈ Region.ready .any ops listed) {v : Value} {w' : World} (hk : ∀ j u, listed.getD j false = true → φ j u w → φ j u w') (hJJ : J (fun j => if j = i then true else listed.getD j false) (fun j => if j = i then v else vs j) w') (hv : φ i v w') : NInv ops φ J a0 (listed.setIfInBounds i true) (fun j => if j = i then v else vs j) (a.put o.dst v) w' := by
  obtain ⟨r1, r2, r3⟩ := ready_iff.1 hi
  have hil : i < listed.size := by rw [h.lsz]; exact r1
  refine ⟨?_, by simp [h.lsz], by rw [put_size]; exact h.size, by rw [put_defers]; exact h.defers, fun j o' hj hl e he' hb => ?_, fun t ht => ?_, fun j o' d hj hl hjd => ?_⟩
  · have : (fun j => (listed.setIfInBounds i true).getD j false) = fun j => if j = i then true else listed.getD j false := by
      funext j; exact getD_set' _ _ _ _ hil
    rw [this]; exact hJJ
  · rw [getD_set' _ _ _ _ hil] at hl ⊢
    split
    · rfl
    · by_cases hji : j = i
      · subst hji
        exact r3 o' hj e he' hb
      · rw [if_neg hji] at hl
        exact h.closed j o' hj hl e he' hb
  · have h1 : o.dst ≠ some t := ht i o ho (by rw [getD_set' _ _ _ _ hil, if_pos rfl])
    rw [put_tmps_ne _ _ _ _ h1]
    refine h.old t fun j o' hj hl => ht j o' hj ?_
    rw [getD_set' _ _ _ _ hil]
    split
    · rfl
    · exact hl
  · by_cases hji : j = i
    · subst hji
      rw [ho] at hj
      obtain rfl : o = o' := by simpa using hj
      have hlt : d < a.tmps.size := by rw [h.size]; exact (dst_of _ hd ho hjd).1
      rw [hjd, Array.getD_eq_getD_getElem?, put_tmps_eq _ _ _ hlt]
      refine ⟨?_, ?_⟩
      · simp
      · simpa using hv
    · rw [getD_set' _ _ _ _ hil, if_neg hji] at hl
      have hne : o.dst ≠ some d := fun e => hji ((dst_of _ hd ho e).2 j o' hj hjd)
      rw [Array.getD_eq_getD_getElem?, put_tmps_ne _ _ _ _ hne, ← Array.getD_eq_getD_getElem?]
      have hn := h.new j o' d hj hl hjd
      simp only [if_neg hji]
      exact ⟨hn.1, hk _ _ hl hn.2⟩
theorem NInv.fin (hd : dstB a0.tmps.size ops = true) {listed : Array Bool} {vs : Nat → Value} {a : Act} {w : World} (h : NInv ops φ J a0 listed vs a w) (hall : ∀ j, j < ops.size → listed.getD j false = true) :
    a = putAll ops.toList 0 vs a0 ∧ ∀ (j : Nat) (o : Oper), ops[j]? = some o → o.dst ≠ none → φ j (vs j) w := by
  refine ⟨act_ext ?_ ?_, fun j o hj hn => ?_⟩
  · apply Array.ext_getElem?
    intro t
    by_cases hex : ∃ (j : Nat) (o : Oper), ops[j]? = some o ∧ o.dst = some t
    · obtain ⟨j, o, hj, hjd⟩ := hex
      have hdd := dst_of _ hd hj hjd
      have hjs : j < ops.size := (Array.getElem?_eq_some_iff.1 hj).1
      rw [putAll_at ops.toList 0 _ a0 j o t (by simpa using hj) hjd hdd.1 (fun k o' hk e => hdd.2 k o' (by simpa using hk) e)]
      have hn := (h.new j o t hj (hall j hjs) hjd).1
      have hlt : t < a.tmps.size := by rw [h.size]; exact hdd.1
      rw [Nat.zero_add, ← hn]
      simp [Array.getD_eq_getD_getElem?, hlt]
    · rw [putAll_ne ops.toList 0 _ a0 t (fun o ho e => hex ?_)]
      · exact h.old t fun j o hj _ e => hex ⟨j, o, hj, e⟩
      · obtain ⟨j, hj, rfl⟩ := List.getElem_of_mem ho
        exact ⟨j, _, by simp [hj], e⟩
  · rw [(putAll_size _ _ _ _).2]; exact h.defers
  · have hjs : j < ops.size := (Array.getElem?_eq_some_iff.1 hj).1
    cases hjd : o.dst with
    | none => exact absurd hjd hn
    | some d => exact (h.new j o d hj (hall j hjs) hjd).2
theorem wpAny_mono3 (ht : topoB ops = true) (hd : dstB a0.tmps.size ops = true)
    (hstep : ∀ (i : Nat) (o : Oper), ops[i]? = some o → StepOK3 P Q ops φ J a0 i o)
    (hend : ∀ (vs : Nat → Value) (w : World) (ls : Nat → Bool), (∀ j, j < ops.size → ls j = true) → J ls vs w → (∀ (j : Nat) (o : Oper), ops[j]? = some o → o.dst ≠ none → φ j (vs j) w) → Q .normal (putAll ops.toList 0 vs a0) w) :
    ∀ (fuel : Nat) (listed : Array Bool) (vs : Nat → Value) (a : Act) (w : World), NInv ops φ J a0 listed vs a w → howMany (fun i => !listed.getD i true) ops.size ≤ fuel → wpAny P .any ops Q fuel listed a w
  | fuel, listed, vs, a, w, h, hf => by
    have hfin : Region.ready .any ops listed = [] → Q .normal a w := fun hr => by
      have hall : ∀ j, j < ops.size → listed.getD j false = true := fun j hj => all_listed ht h.lsz hr (j + 1) j (by omega) hj
      obtain ⟨e1, e2⟩ := h.fin hd hall
      rw [e1]
      exact hend vs w _ hall h.inv e2
    match fuel, hf with
    | 0, hf =>
      have hr : Region.ready .any ops listed = [] := by
        cases hrr : Region.ready .any ops listed with
        | nil => rfl
        | cons i rs =>
          have hi : i ∈ Region.ready .any ops listed := by rw [hrr]; simp
          obtain ⟨r1, r2, r3⟩ := ready_iff.1 hi
          have := howMany_less (fun i => !listed.getD i true) i (by simp [r2]) ops.size r1
          omega
      exact ⟨hr, hfin hr⟩
    | fuel + 1, hf =>
      refine ⟨hfin, fun i hi => ?_⟩
      obtain ⟨r1, r2, r3⟩ := ready_iff.1 hi
      have ho : ops[i]? = some ops[i] := Array.getElem?_eq_getElem r1
      have hil : i < listed.size := by rw [h.lsz]; exact r1
      have hcount : howMany (fun j => !(listed.setIfInBounds i true).getD j true) ops.size ≤ fuel := by
        have h1 := howMany_less (fun i => !listed.getD i true) i (by simp [r2]) ops.size r1
        have h2 : (fun j => !(listed.setIfInBounds i true).getD j true) = fun j => (!listed.getD j true) && !(j == i) := by
          funext j
          rw [getD_set' _ _ _ _ hil]
          by_cases hji : j = i
          · simp [hji]
          · simp [hji]
        rw [h2]; omega
      refine wpOp_mono (K := fun a' w' => ∃ vs', NInv ops φ J a0 (listed.setIfInBounds i true) vs' a' w') (fun a' w' hI => let ⟨vs', hI⟩ := hI; wpAny_mono3 ht hd hstep hend fuel _ vs' a' w' hI hcount) ?_
      have hif : listed.getD i false = false := by
        have : listed.getD i false = listed.getD i true := by simp [Array.getD_eq_getD_getElem?, hil]
        rw [this]; exact r2
      refine wpOp_step ho fun K hK => hstep i _ ho (fun j => listed.getD j false) vs a w hif h.inv (fun t htB => ?_) (fun j d hj hjd => ?_) (fun j hj => by
        rw [Array.any_eq_true'] at hj
        obtain ⟨e', he', hb⟩ := hj
        simp only [Bool.and_eq_true, beq_iff_eq] at hb
        obtain ⟨hb1, rfl⟩ := hb
        exact r3 _ ho e' he' hb1) (fun i' j hi' hj => by
        cases ho' : ops[i']? with
        | none => rw [ho'] at hj; cases hj
        | some o' =>
          rw [ho'] at hj
          simp only [Option.map_some, Option.getD_some] at hj
          rw [Array.any_eq_true'] at hj
          obtain ⟨e', he', hb⟩ := hj
          simp only [Bool.and_eq_true, beq_iff_eq] at hb
          obtain ⟨hb1, rfl⟩ := hb
          exact h.closed i' o' ho' hi' e' he' hb1) K (fun v w' hk hJ hv => hK _ _ ⟨_, h.step hd ho hi hk hJ hv⟩)
      · have := h.old t fun j o' hj hl e => by
          unfold oldB at htB
          rw [List.all_eq_true] at htB
          have hjs : j < ops.size := (Array.getElem?_eq_some_iff.1 hj).1
          have h1 := htB j (List.mem_range.2 hjs)
          simp only [hj, e, beq_self_eq_true, Bool.not_true, Bool.false_or] at h1
          rw [Array.any_eq_true'] at h1
          obtain ⟨e', he', hb⟩ := h1
          simp only [Bool.and_eq_true, beq_iff_eq] at hb
          have h3 := h.closed j o' hj hl e' he' hb.1
          rw [hb.2] at h3
          have h4 : listed.getD i true = true := by simp [Array.getD_eq_getD_getElem?, hil] at h3 ⊢; exact h3
          rw [h4] at r2; cases r2
        rw [this]
      · rw [Array.any_eq_true'] at hj
        obtain ⟨e', he', hb⟩ := hj
        simp only [Bool.and_eq_true, beq_iff_eq] at hb
        obtain ⟨hb1, rfl⟩ := hb
        have hl := r3 _ ho e' he' hb1
        refine ⟨hl, ?_⟩
        cases ho' : ops[e'.on]? with
        | none => rw [ho'] at hjd; cases hjd
        | some o' =>
          rw [ho'] at hjd
          have := h.new e'.on o' d ho' hl hjd
          rwa [Array.getD_eq_getD_getElem?] at this
/-- THE LAW. -/
theorem wp_region_said3 {id : Nat} (φ : Nat → Value → World → Prop) (J : (Nat → Bool) → (Nat → Value) → World → Prop) {l : List Oper} (hm : P.follows .mixedOrders = true) (ht : topoB l.toArray = true) (hd : dstB a0.tmps.size l.toArray = true)
    (h0 : J (fun _ => false) (fun _ => undef) w0.drew)
    (hstep : StepsOK3 P Q l.toArray φ J a0 l 0)
    (hend : ∀ (vs : Nat → Value) (w : World) (ls : Nat → Bool), (∀ j, j < l.length → ls j = true) → J ls vs w → (∀ j : Nat, (((l.toArray)[j]?).bind (·.dst)).isSome = true → φ j (vs j) w) → Q .normal (putAll l 0 vs a0) w) : (Code.region id l.toArray true).wp P Q a0 w0 := by
  refine wp_region_any hm (wpAny_mono3 (φ := φ) (J := J) (a0 := a0) ht hd (fun i o ho => ?_) (fun vs w ls hls hJ hφ => ?_) _ _ (fun _ => undef) _ _ ⟨?_, by simp, rfl, rfl, fun j o hj hl => ?_, fun t _ => rfl, fun j o d hj hl => ?_⟩ ?_)
  · have hs := steps_at3 l 0 hstep i o (by simpa using ho)
    rwa [Nat.zero_add] at hs
  · refine hend vs w ls (by simpa using hls) hJ fun j hj => ?_
    cases ho : l.toArray[j]? with
    | none => rw [ho] at hj; cases hj
    | some o =>
      refine hφ j o ho fun e => ?_
      rw [ho, Option.bind_some, e] at hj
      cases hj
  · have : (fun j => (Array.replicate l.toArray.size false).getD j false) = fun _ => false := by
      funext j
      simp only [Array.getD_eq_getD_getElem?, Array.getElem?_replicate]
      split <;> rfl
    rw [this]; exact h0
  · have hj' : j < l.toArray.size := (Array.getElem?_eq_some_iff.1 hj).1
    simp at hj'
    simp [hj'] at hl
  · have hj' : j < l.toArray.size := (Array.getElem?_eq_some_iff.1 hj).1
    simp at hj'
    simp [hj'] at hl
  · have : ∀ n (q : Nat → Bool), howMany q n ≤ n := fun n q => by
      induction n with
      | zero => exact Nat.le_refl _
      | succ n ih => simp only [howMany]; split <;> omega
    exact this _ _
end
end Go.Proofs.YtplbofhgmflnlaaGreat
end
section
/-
  A function's region by its number: so that the walk of one region can be a theorem of its own, over any frame with the few slots that it reads.
-/
set_option linter.unusedVariables false
set_option linter.unusedSimpArgs false
namespace Go.Proofs.YtplbofhgmflnlaaGreat
open Go Go.RowKit
def findReg (n : Nat) : Code → Option Code
  | .region m ops d => if m = n then some (.region m ops d) else none
  | .seq a b => match findReg n a with
    | some c => some c
    | none => findReg n b
  | .cond _ a b => match findReg n a with
    | some c => some c
    | none => findReg n b
  | .block _ c => findReg n c
  | .loop c => findReg n c
  | .scope c => findReg n c
  | _ => none
noncomputable def regOf (f : Func) (n : Nat) : Code := (f.body.bind (findReg n)).getD .skip
def findCond (n : Nat) : Code → Option Code
  | .seq a b => match findCond n a with
    | some c => some c
    | none => findCond n b
  | .cond (.tmp m) a b => if m = n then some (.cond (.tmp m) a b) else match findCond n a with
    | some c => some c
    | none => findCond n b
  | .block _ c => findCond n c
  | .loop c => findCond n c
  | .scope c => findCond n c
  | _ => none
noncomputable def condOf (f : Func) (n : Nat) : Code := (f.body.bind (findCond n)).getD .skip
def putsL (sl : List Nat) (u : Nat → Value) (a : Act) : Act := sl.foldl (fun a i => a.put (some i) (u i)) a
theorem put_self (a : Act) (i : Nat) : a.put (some i) (a.tmps[i]?.getD undef) = a := by
  obtain ⟨t, d⟩ := a
  simp only [Act.put, Act.mk.injEq, and_true]
  apply Array.ext_getElem?
  intro j
  rw [Array.getElem?_setIfInBounds]
  split
  · rename_i h
    subst h
    split
    · rename_i h2; simp [h2]
    · rename_i h2; simp [h2]
  · rfl
section
variable {P : Program} {Q : Exit → Act → World → Prop} {ops : Array Oper} {φ : Nat → Value → World → Prop} {J : (Nat → Bool) → (Nat → Value) → World → Prop} {a0 : Act} {w0 : World}
theorem wpOps_said3 (ht : topoB ops = true) (hd : dstB a0.tmps.size ops = true)
    (hstep : ∀ (i : Nat) (o : Oper), ops[i]? = some o → StepOK3 P Q ops φ J a0 i o)
    (hend : ∀ (vs : Nat → Value) (w : World) (ls : Nat → Bool), (∀ j, j < ops.size → ls j = true) → J ls vs w → (∀ (j : Nat) (o : Oper), ops[j]? = some o → o.dst ≠ none → φ j (vs j) w) → Q .normal (putAll ops.toList 0 vs a0) w) :
    ∀ (m i : Nat) (listed : Array Bool) (vs : Nat → Value) (a : Act) (w : World), i + m = ops.size → NInv ops φ J a0 listed vs a w → (∀ j, j < ops.size → listed.getD j false = decide (j < i)) → wpOps P ops Q (List.range' i m) a w
  | 0, i, listed, vs, a, w, him, h, hl => by
    have hall : ∀ j, j < ops.size → listed.getD j false = true := fun j hj => by rw [hl j hj]; simp; omega
    obtain ⟨e1, e2⟩ := h.fin hd hall
    show Q .normal a w
    rw [e1]
    exact hend vs w _ hall h.inv e2
  | m + 1, i, listed, vs, a, w, him, h, hl => by
    have r1 : i < ops.size := by omega
    have ho : ops[i]? = some ops[i] := Array.getElem?_eq_getElem r1
    have hil : i < listed.size := by rw [h.lsz]; exact r1
    have hif : listed.getD i false = false := by rw [hl i r1]; simp
    have r2 : listed.getD i true = false := by
      have : listed.getD i false = listed.getD i true := by simp [Array.getD_eq_getD_getElem?, hil]
      rw [← this]; exact hif
    have htop : ∀ j o, ops[j]? = some o → ∀ e ∈ o.after, Region.binds .any e = true → e.on < j := fun j o hj e he hb => by
      have hjs : j < ops.size := (Array.getElem?_eq_some_iff.1 hj).1
      unfold topoB at ht
      rw [List.all_eq_true] at ht
      have h1 := ht j (List.mem_range.2 hjs)
      rw [hj] at h1
      simp only [Option.map_some, Option.getD_some, Array.all_eq_true'] at h1
      have h2 := h1 e he
      simp only [hb, Bool.not_true, Bool.false_or, decide_eq_true_eq] at h2
      exact h2
    have r3 : ∀ o, ops[i]? = some o → ∀ e ∈ o.after, Region.binds .any e = true → listed.getD e.on false = true := fun o hj e he hb => by
      have h2 := htop i o hj e he hb
      rw [hl _ (by omega)]; simpa using h2
    have hi : i ∈ Region.ready .any ops listed := ready_iff.2 ⟨r1, r2, r3⟩
    have hnext : ∀ (listed' : Array Bool), listed' = listed.setIfInBounds i true → ∀ j, j < ops.size → listed'.getD j false = decide (j < i + 1) := fun listed' e j hj => by
      rw [e, getD_set' _ _ _ _ hil]
      by_cases hji : j = i
      · subst hji; simp
      · rw [if_neg hji, hl j hj]
        have : (j < i) ↔ (j < i + 1) := by omega
        simp [this]
    have key := hstep i _ ho (fun j => listed.getD j false) vs a w hif h.inv (fun t htB => ?_) (fun j d hj hjd => ?_) (fun j hj => by
        rw [Array.any_eq_true'] at hj
        obtain ⟨e', he', hb⟩ := hj
        simp only [Bool.and_eq_true, beq_iff_eq] at hb
        obtain ⟨hb1, rfl⟩ := hb
        exact r3 _ ho e' he' hb1) (fun i' j hi' hj => by
        cases ho' : ops[i']? with
        | none => rw [ho'] at hj; cases hj
        | some o' =>
          rw [ho'] at hj
          simp only [Option.map_some, Option.getD_some] at hj
          rw [Array.any_eq_true'] at hj
          obtain ⟨e', he', hb⟩ := hj
          simp only [Bool.and_eq_true, beq_iff_eq] at hb
          obtain ⟨hb1, rfl⟩ := hb
          exact h.closed i' o' ho' hi' e' he' hb1) (wpOps P ops Q (List.range' (i + 1) m))
      (fun v w' hk hJ hv => wpOps_said3 ht hd hstep hend m (i + 1) _ _ _ _ (by omega) (h.step hd ho hi hk hJ hv) (hnext _ rfl))
    · simp only [List.range'_succ, wpOps, ho]
      split at key
      · rename_i hw; rw [if_pos hw]; exact .inl key
      · rename_i hw; rw [if_neg hw]; exact key
    · have := h.old t fun j o' hj hl2 e => by
        unfold oldB at htB
        rw [List.all_eq_true] at htB
        have hjs : j < ops.size := (Array.getElem?_eq_some_iff.1 hj).1
        have h1 := htB j (List.mem_range.2 hjs)
        simp only [hj, e, beq_self_eq_true, Bool.not_true, Bool.false_or] at h1
        rw [Array.any_eq_true'] at h1
        obtain ⟨e', he', hb⟩ := h1
        simp only [Bool.and_eq_true, beq_iff_eq] at hb
        have h3 := h.closed j o' hj hl2 e' he' hb.1
        rw [hb.2] at h3
        rw [hif] at h3; cases h3
      rw [this]
    · rw [Array.any_eq_true'] at hj
      obtain ⟨e', he', hb⟩ := hj
      simp only [Bool.and_eq_true, beq_iff_eq] at hb
      obtain ⟨hb1, rfl⟩ := hb
      have hl2 := r3 _ ho e' he' hb1
      refine ⟨hl2, ?_⟩
      cases ho' : ops[e'.on]? with
      | none => rw [ho'] at hjd; cases hjd
      | some o' =>
        rw [ho'] at hjd
        have := h.new e'.on o' d ho' hl2 hjd
        rwa [Array.getD_eq_getD_getElem?] at this
/-- THE LAW, for a region in its own order. -/
theorem wp_region_seq3 {id : Nat} (φ : Nat → Value → World → Prop) (J : (Nat → Bool) → (Nat → Value) → World → Prop) {l : List Oper} (ht : topoB l.toArray = true) (hd : dstB a0.tmps.size l.toArray = true)
    (h0 : J (fun _ => false) (fun _ => undef) w0)
    (hstep : StepsOK3 P Q l.toArray φ J a0 l 0)
    (hend : ∀ (vs : Nat → Value) (w : World) (ls : Nat → Bool), (∀ j, j < l.length → ls j = true) → J ls vs w → (∀ j : Nat, (((l.toArray)[j]?).bind (·.dst)).isSome = true → φ j (vs j) w) → Q .normal (putAll l 0 vs a0) w) : (Code.region id l.toArray false).wp P Q a0 w0 := by
  refine wp_region ?_
  rw [List.range_eq_range']
  refine wpOps_said3 (φ := φ) (J := J) (a0 := a0) ht hd (fun i o ho => ?_) (fun vs w ls hls hJ hφ => ?_) l.toArray.size 0 (Array.replicate l.toArray.size false) (fun _ => undef) a0 w0 (by omega) ⟨?_, by simp, rfl, rfl, fun j o hj hl => ?_, fun t _ => rfl, fun j o d hj hl => ?_⟩ (fun j hj => ?_)
  · have hs := steps_at3 l 0 hstep i o (by simpa using ho)
    rwa [Nat.zero_add] at hs
  · refine hend vs w ls (by simpa using hls) hJ fun j hj => ?_
    cases ho : l.toArray[j]? with
    | none => rw [ho] at hj; cases hj
    | some o =>
      refine hφ j o ho fun e => ?_
      rw [ho, Option.bind_some, e] at hj
      cases hj
  · have : (fun j => (Array.replicate l.toArray.size false).getD j false) = fun _ => false := by
      funext j
      simp only [Array.getD_eq_getD_getElem?, Array.getElem?_replicate]
      split <;> rfl
    rw [this]; exact h0
  · have hj' : j < l.toArray.size := (Array.getElem?_eq_some_iff.1 hj).1
    simp at hj'
    simp [hj'] at hl
  · have hj' : j < l.toArray.size := (Array.getElem?_eq_some_iff.1 hj).1
    simp at hj'
    simp [hj'] at hl
  · have hj' : j < l.length := by simpa using hj
    simp [hj']
end
/-- A cut that forgets 5 slots. -/
theorem wp_cut5 {P : Program} {s : Code} {K : Act → World → Prop} {Q' : Exit → Act → World → Prop} {a : Act} {w : World} (s1 s2 s3 s4 s5 : Nat) (R : Value → Value → Value → Value → Value → World → Prop)
    (rest : ∀ (v1 v2 v3 v4 v5 : Value) w', R v1 v2 v3 v4 v5 w' → K (((((a.put (some s1) v1).put (some s2) v2).put (some s3) v3).put (some s4) v4).put (some s5) v5) w')
    (first : ∀ (J K' : Act → World → Prop), (∀ (v1 v2 v3 v4 v5 : Value) w', R v1 v2 v3 v4 v5 w' → J (((((a.put (some s1) v1).put (some s2) v2).put (some s3) v3).put (some s4) v4).put (some s5) v5) w') → (∀ a' w', Met J a' w' → K' a' w') → s.wp P (Exit.then K' Q') a w) : s.wp P (Exit.then K Q') a w :=
  wp_cut (fun a' w' => ∃ v1 v2 v3 v4 v5 : Value, R v1 v2 v3 v4 v5 w' ∧ a' = (((((a.put (some s1) v1).put (some s2) v2).put (some s3) v3).put (some s4) v4).put (some s5) v5)) (fun a' w' h => by obtain ⟨v1, v2, v3, v4, v5, h1, rfl⟩ := h; exact rest v1 v2 v3 v4 v5 w' h1)
    (fun J K' hJ hK => first J K' (fun v1 v2 v3 v4 v5 w' h => hJ _ _ ⟨v1, v2, v3, v4, v5, h, rfl⟩) hK)
/-- A cut that forgets 9 slots. -/
theorem wp_cut9 {P : Program} {s : Code} {K : Act → World → Prop} {Q' : Exit → Act → World → Prop} {a : Act} {w : World} (s1 s2 s3 s4 s5 s6 s7 s8 s9 : Nat) (R : Value → Value → Value → Value → Value → Value → Value → Value → Value → World → Prop)
    (rest : ∀ (v1 v2 v3 v4 v5 v6 v7 v8 v9 : Value) w', R v1 v2 v3 v4 v5 v6 v7 v8 v9 w' → K (((((((((a.put (some s1) v1).put (some s2) v2).put (some s3) v3).put (some s4) v4).put (some s5) v5).put (some s6) v6).put (some s7) v7).put (some s8) v8).put (some s9) v9) w')
    (first : ∀ (J K' : Act → World → Prop), (∀ (v1 v2 v3 v4 v5 v6 v7 v8 v9 : Value) w', R v1 v2 v3 v4 v5 v6 v7 v8 v9 w' → J (((((((((a.put (some s1) v1).put (some s2) v2).put (some s3) v3).put (some s4) v4).put (some s5) v5).put (some s6) v6).put (some s7) v7).put (some s8) v8).put (some s9) v9) w') → (∀ a' w', Met J a' w' → K' a' w') → s.wp P (Exit.then K' Q') a w) : s.wp P (Exit.then K Q') a w :=
  wp_cut (fun a' w' => ∃ v1 v2 v3 v4 v5 v6 v7 v8 v9 : Value, R v1 v2 v3 v4 v5 v6 v7 v8 v9 w' ∧ a' = (((((((((a.put (some s1) v1).put (some s2) v2).put (some s3) v3).put (some s4) v4).put (some s5) v5).put (some s6) v6).put (some s7) v7).put (some s8) v8).put (some s9) v9)) (fun a' w' h => by obtain ⟨v1, v2, v3, v4, v5, v6, v7, v8, v9, h1, rfl⟩ := h; exact rest v1 v2 v3 v4 v5 v6 v7 v8 v9 w' h1)
    (fun J K' hJ hK => first J K' (fun v1 v2 v3 v4 v5 v6 v7 v8 v9 w' h => hJ _ _ ⟨v1, v2, v3, v4, v5, v6, v7, v8, v9, h, rfl⟩) hK)
/-- Whether a guarded operation is wanted, by the test's slot. -/
theorem wanted_of {ops : Array Oper} {o : Oper} {a : Act} {j t : Nat} {b want : Bool} (hg : o.guard = some (j, want)) (hd : (ops[j]?).bind (·.dst) = some t) (hv : a.tmps[t]?.getD undef = .bool b) : Region.wanted o (yielded ops a.tmps) = (b == want) := by
  have h1 : a.tmps[t]? = some (.bool b) := by
    cases h : a.tmps[t]? with
    | none => rw [h] at hv; cases hv
    | some v => rw [h] at hv; simpa using hv
  have h2 : yielded ops a.tmps j = some b := by
    simp only [yielded, hd, Option.bind_some, h1]
  simp only [Region.wanted, hg, h2]
  cases b <;> cases want <;> rfl
end Go.Proofs.YtplbofhgmflnlaaGreat
end
section
/-
  Guarded operations of a drawn region: a value that is there only if its guard says so.
-/
set_option linter.unusedVariables false
set_option linter.unusedSimpArgs false
namespace Go.Proofs.YtplbofhgmflnlaaGreat
open Go Go.RowKit
/-- What stands in a guarded operation's slot. -/
def gv : Bool → Value → Value
  | true, v => v
  | false, _ => undef
theorem gv_true (v : Value) : gv true v = v := rfl
theorem gv_false (v : Value) : gv false v = undef := rfl
theorem wanted_none {ops : Array Oper} {o : Oper} {a : Act} {j t : Nat} {want : Bool} (hg : o.guard = some (j, want)) (hd : (ops[j]?).bind (·.dst) = some t) (hv : a.tmps[t]?.getD undef = undef) : Region.wanted o (yielded ops a.tmps) = false := by
  have h2 : yielded ops a.tmps j = none := by
    simp only [yielded, hd, Option.bind_some]
    cases h : a.tmps[t]? with
    | none => rfl
    | some v =>
      rw [h] at hv
      obtain rfl : v = undef := by simpa using hv
      rfl
  simp only [Region.wanted, hg, h2]
  cases want <;> rfl
/-- A cut that forgets the slots of a list. -/
theorem wp_cutL {P : Program} {s : Code} {K : Act → World → Prop} {Q' : Exit → Act → World → Prop} {a : Act} {w : World} (sl : List Nat) (R : (Nat → Value) → World → Prop)
    (rest : ∀ (u : Nat → Value) w', R u w' → K (putsL sl u a) w')
    (first : ∀ (J K' : Act → World → Prop), (∀ (u : Nat → Value) w', R u w' → J (putsL sl u a) w') → (∀ a' w', Met J a' w' → K' a' w') → s.wp P (Exit.then K' Q') a w) : s.wp P (Exit.then K Q') a w :=
  wp_cut (fun a' w' => ∃ u : Nat → Value, R u w' ∧ a' = putsL sl u a) (fun a' w' h => by obtain ⟨u, h1, rfl⟩ := h; exact rest u w' h1)
    (fun J K' hJ hK => first J K' (fun u w' h => hJ _ _ ⟨u, h, rfl⟩) hK)
theorem met_puts {J : Act → World → Prop} {sl : List Nat} {a F : Act} {w' : World} {R : (Nat → Value) → World → Prop} (hJ : ∀ (u : Nat → Value) w', R u w' → J (putsL sl u a) w')
    (hF : putsL sl (fun i => (F.tmps[i]?).getD undef) a = F) (hR : R (fun i => (F.tmps[i]?).getD undef) w') : Met J F w' := Met.intro (hF ▸ hJ _ _ hR)
end Go.Proofs.YtplbofhgmflnlaaGreat
end
end
end
section
/-
  Rows of this seat's structs; IndexFunc and ContainsFunc at them (printed by genmb.py).
-/
set_option linter.unusedVariables false
set_option linter.unusedSimpArgs false
namespace Go.Proofs.YtplbofhgmflnlaaGreat
open Go.RowKit
/-! ### plain -/
structure Fac where
  lev : Int
  cost : Int
  hard : Bool
structure Pr where
  fac : Int
  lev : Int
structure Wd where
  mask : Nat
  odd : Bool
deriving DecidableEq
/-- A slice and what lies under it. -/
structure Sl (α : Type) where
  a : Option Addr
  xs : List α
  c : Nat
/-- A setting, with the place of its levels. -/
structure Se where
  lv : Sl Int
  blk : Int
def fth (xs : List Fac) (i : Nat) : Fac := xs.getD i ⟨0, 0, false⟩
def pth (xs : List Pr) (i : Nat) : Pr := xs.getD i ⟨0, 0⟩
def wth (xs : List Wd) (i : Nat) : Wd := xs.getD i ⟨0, false⟩
def gth (xs : List (Sl Pr)) (i : Nat) : Sl Pr := xs.getD i ⟨none, [], 0⟩
def eth (xs : List Se) (i : Nat) : Se := xs.getD i ⟨⟨none, [], 0⟩, 0⟩
def vth (xs : List (Sl Int)) (i : Nat) : Sl Int := xs.getD i ⟨none, [], 0⟩
theorem fth_eq (xs : List Fac) (i : Nat) (h : i < xs.length) : fth xs i = xs[i] := by simp [fth, h]
theorem pth_eq (xs : List Pr) (i : Nat) (h : i < xs.length) : pth xs i = xs[i] := by simp [pth, h]
theorem wth_eq (xs : List Wd) (i : Nat) (h : i < xs.length) : wth xs i = xs[i] := by simp [wth, h]
theorem gth_eq (xs : List (Sl Pr)) (i : Nat) (h : i < xs.length) : gth xs i = xs[i] := by simp [gth, h]
theorem eth_eq (xs : List Se) (i : Nat) (h : i < xs.length) : eth xs i = xs[i] := by simp [eth, h]
theorem vth_eq (xs : List (Sl Int)) (i : Nat) (h : i < xs.length) : vth xs i = xs[i] := by simp [vth, h]
/-- The first number below n at which q holds. -/
def fIdx (q : Nat → Bool) (n : Nat) : Option Nat := (List.range n).find? q
theorem fIdx_some {q : Nat → Bool} {n k : Nat} (hk : k < n) (h : q k = true) (hf : ∀ j, j < k → q j = false) : fIdx q n = some k := by
  unfold fIdx
  rw [List.find?_range_eq_some]
  exact ⟨h, by simpa using hk, fun j hj => by simp [hf j hj]⟩
theorem fIdx_none {q : Nat → Bool} {n : Nat} (hf : ∀ j, j < n → q j = false) : fIdx q n = none := by
  unfold fIdx
  rw [List.find?_range_eq_none]
  exact fun j hj => by simp [hf j (by simpa using hj)]
theorem all_lt_succ {q : Nat → Bool} {k : Nat} {b : Bool} (hf : ∀ j, j < k → q j = b) (h : q k = b) : ∀ j, j < k + 1 → q j = b := fun j hj => by
  rcases Nat.lt_succ_iff_lt_or_eq.1 hj with h1 | h1
  · exact hf j h1
  · rw [h1]; exact h
def idxOr : Option Nat → Int
  | some i => (i : Int)
  | none => -1
section
variable {α : Type}
theorem findIdx_some (th : List α → Nat → α) (the : ∀ xs i (h : i < xs.length), th xs i = xs[i]) (p : α → Bool) (xs : List α) (k : Nat) (hk : k < xs.length) (h : p (th xs k) = true) (hf : ∀ j, j < k → p (th xs j) = false) : xs.findIdx? p = some k := by
  rw [List.findIdx?_eq_some_iff_getElem]
  refine ⟨hk, by rw [← the xs k hk]; exact h, fun j hj => ?_⟩
  have := hf j hj
  rw [the xs j (by omega)] at this
  simp [this]
theorem findIdx_none (th : List α → Nat → α) (the : ∀ xs i (h : i < xs.length), th xs i = xs[i]) (p : α → Bool) (xs : List α) (hf : ∀ j, j < xs.length → p (th xs j) = false) : xs.findIdx? p = none := by
  rw [List.findIdx?_eq_none_iff]
  intro x hx
  obtain ⟨i, hi, rfl⟩ := List.getElem_of_mem hx
  rw [← the xs i hi]; exact hf i hi
theorem any_idx (p : α → Bool) (xs : List α) : xs.any p = decide (0 ≤ idxOr (xs.findIdx? p)) := by
  cases h : xs.findIdx? p with
  | none =>
    rw [List.findIdx?_eq_none_iff] at h
    have : xs.any p = false := by rw [List.any_eq_false]; intro x hx; simp [h x hx]
    rw [this]; rfl
  | some i =>
    rw [List.findIdx?_eq_some_iff_getElem] at h
    obtain ⟨hi, hp, -⟩ := h
    have : xs.any p = true := List.any_eq_true.2 ⟨_, List.getElem_mem hi, hp⟩
    rw [this]
    simp [idxOr]
end
/-! ### in memory -/
section
variable {α : Type}
/-- Under this head (nil too) lie these structs. -/
def RowAt (sz : Nat) (f : α → List Value) (w : World) (a : Option Addr) (xs : List α) : Prop :=
  xs = [] ∨ ∃ b o, a = some ⟨b, o, none⟩ ∧ ∀ i (h : i < xs.length) j, j < sz → w.cell? ⟨b, o + i * sz + j, none⟩ = (f xs[i])[j]?
theorem RowAt.ext {sz : Nat} {f : α → List Value} (hf : ∀ x, (f x).length = sz) {w w' : World} {a : Option Addr} {xs : List α} (h : RowAt sz f w a xs) (e : Ext w w') : RowAt sz f w' a xs := by
  rcases h with h | ⟨b, o, h1, h2⟩
  · exact .inl h
  · refine .inr ⟨b, o, h1, fun i hi j hj => ?_⟩
    have := h2 i hi j hj
    rw [List.getElem?_eq_getElem (by rw [hf]; exact hj)] at this ⊢
    exact e.cell this
theorem RowAt.at {sz : Nat} {f : α → List Value} (hf : ∀ x, (f x).length = sz) {w : World} {a : Option Addr} {xs : List α} (h : RowAt sz f w a xs) (i : Nat) (hi : i < xs.length) :
    ∃ b o, a = some ⟨b, o, none⟩ ∧ ∀ j, j < sz → ∀ W, Ext w W → W.cell? ⟨b, o + i * sz + j, none⟩ = (f xs[i])[j]? := by
  rcases h with rfl | ⟨b, o, h1, h2⟩
  · simp at hi
  · refine ⟨b, o, h1, fun j hj W e => ?_⟩
    have := h2 i hi j hj
    rw [List.getElem?_eq_getElem (by rw [hf]; exact hj)] at this ⊢
    exact e.cell this
theorem RowAt.own {e sz : Nat} {f : α → List Value} (hf : ∀ x, (f x).length = sz) {w : World} {B : Nat} {a : Option Addr} {n c : Nat} {xs : List α} (h : OwnF e sz f w B (.slice a n c) xs) : RowAt sz f w a xs := by
  cases xs with
  | nil => exact .inl rfl
  | cons x0 xs0 =>
    obtain ⟨g, ha, -, -, -⟩ := OwnF.cell hf h 0 (by simp)
    refine .inr ⟨g, 0, ha, fun i hi j hj => ?_⟩
    obtain ⟨g', ha', -, -, hc⟩ := OwnF.cell hf h i hi
    rw [ha] at ha'
    simp only [Option.some.injEq, Addr.mk.injEq, and_true] at ha'
    subst ha'
    rw [Nat.zero_add]
    exact hc j hj
theorem RowAt.src {sz : Nat} {f : α → List Value} (hf : ∀ x, (f x).length = sz) {w : World} {a : Option Addr} {xs : List α} (h : RowAt sz f w a xs) : Src w a (rowF f xs) := by
  rcases h with rfl | ⟨b, o, h1, h2⟩
  · exact .inl rfl
  · refine .inr ⟨_, h1, fun q u hq => ?_⟩
    have hlt : q < xs.length * sz := by
      rcases Nat.lt_or_ge q (xs.length * sz) with h | h
      · exact h
      · rw [List.getElem?_eq_none (by rw [rowF_len hf]; exact h)] at hq; cases hq
    have hs : 0 < sz := by
      rcases Nat.eq_zero_or_pos sz with h | h
      · rw [h] at hlt; simp at hlt
      · exact h
    have hi : q / sz < xs.length := (Nat.div_lt_iff_lt_mul hs).2 hlt
    have hj : q % sz < sz := Nat.mod_lt _ hs
    have e : q / sz * sz + q % sz = q := Nat.div_add_mod' q sz
    have hr := rowF_at hf xs (q / sz) (q % sz) hi hj
    rw [e] at hr
    rw [hr] at hq
    have := h2 (q / sz) hi (q % sz) hj
    rw [Nat.add_assoc, e, hq] at this
    rw [Addr.add_lit]
    exact this
/-- 'append(v, x...)', v the call's own. -/
theorem app_row {e sz t : Nat} {f : α → List Value} (hf : ∀ x, (f x).length = sz) (h1 : ∀ x, ∀ u ∈ f x, u.oneCell' = true) {i : TypeInfo} {z : Value} {bytes : Nat} (ht : Tryz.prog.underlying t = some (.slice e)) (hi : Tryz.prog.info? e = some i) (hz : i.zero = some z) (hsize : i.size = sz) (hby : i.bytes = bytes) (hzs : z.cells.size = sz) (hsz : 0 < sz) (hb : bytes ≤ 140737488)
    (w : World) (B : Nat) (ty : TypeId) (v : Value) (xs ys : List α) (a : Option Addr) (c : Nat) (hv : OwnF e sz f w B v xs) (hx : RowAt sz f w a ys) (hn : xs.length + ys.length ≤ 1000000) (hB : B ≤ w.heap.size) :
    ∃ v' w', (Builtin.append_ #[t, t] ty #[v, .slice a ys.length c]).run Tryz.prog w = .ok v' w' ∧ OwnF e sz f w' B v' (xs ++ ys) ∧ w.grownBy w' v.ownBlock := by
  obtain ⟨v', w', q1, q2, q3⟩ := run_app w B t ty e i z sz bytes ht hi hz hsize hby hzs hsz v xs.length (rowF f xs) hv a ys.length c (rowF f ys) (rowF_len hf ys) (hx.src hf) (rowF_one h1 ys) (by unfold maxLen; omega) (by
    have : (xs.length + ys.length) * bytes ≤ 1000000 * 140737488 := Nat.mul_le_mul hn hb
    omega) hB
  refine ⟨v', w', q1, ?_, q3⟩
  unfold OwnF
  rw [List.length_append, rowF_append]
  exact q2
theorem ownF_slice {e sz : Nat} {f : α → List Value} {w : World} {B : Nat} {v : Value} {xs : List α} (h : OwnF e sz f w B v xs) : ∃ a c, v = .slice a xs.length c := by
  rcases h.2 with ⟨h, hn⟩ | ⟨g, cap, cur, hv, -⟩
  · exact ⟨none, 0, by rw [h, hn]⟩
  · exact ⟨_, _, hv⟩
theorem RowAt.upd {sz : Nat} {f : α → List Value} (hf : ∀ x, (f x).length = sz) {w w' : World} {F : List Nat} {a : Option Addr} {xs : List α} (h : RowAt sz f w a xs) (u : Upd F w w') (hF : ∀ ad, a = some ad → ad.block ∉ F) : RowAt sz f w' a xs := by
  rcases h with h | ⟨b, o, h1, h2⟩
  · exact .inl h
  · refine .inr ⟨b, o, h1, fun i hi j hj => ?_⟩
    have hc := h2 i hi j hj
    rw [List.getElem?_eq_getElem (by rw [hf]; exact hj)] at hc ⊢
    have hb := u.block b (lt_of_cell hc) (hF _ h1)
    have : w'.cell? ⟨b, o + i * sz + j, none⟩ = w.cell? ⟨b, o + i * sz + j, none⟩ := by unfold World.cell?; rw [hb]
    rw [this]; exact hc
end
def facC (x : Fac) : List Value := [.int .i64 x.lev, .int .i64 x.cost, .bool x.hard]
theorem facC_len (x : Fac) : (facC x).length = 3 := rfl
theorem facC_one (x : Fac) : ∀ u ∈ facC x, u.oneCell' = true := by
  intro u hu
  simp only [facC, List.mem_cons, List.mem_nil_iff, or_false] at hu
  rcases hu with rfl | rfl | rfl <;> rfl
abbrev facV (x : Fac) : Value := .agg #[.int .i64 x.lev, .int .i64 x.cost, .bool x.hard]
abbrev Facs (w : World) (a : Option Addr) (xs : List (Fac)) : Prop := RowAt 3 facC w a xs
theorem fac_at {w : World} {a : Option Addr} {xs : List (Fac)} (h : Facs w a xs) (i : Nat) (hi : i < xs.length) : ∃ b o, a = some ⟨b, o, none⟩ ∧
    (∀ W, Ext w W → W.cell? ⟨b, o + i * 3, none⟩ = some (.int .i64 (fth xs i).lev)) ∧
    (∀ W, Ext w W → W.cell? ⟨b, o + i * 3 + 1, none⟩ = some (.int .i64 (fth xs i).cost)) ∧
    (∀ W, Ext w W → W.cell? ⟨b, o + i * 3 + 2, none⟩ = some (.bool (fth xs i).hard)) := by
  obtain ⟨b, o, h1, h2⟩ := RowAt.at facC_len h i hi
  rw [← fth_eq xs i hi] at h2
  refine ⟨b, o, h1, fun W e => by have := h2 0 (by omega) W e; simpa [facC] using this, fun W e => by have := h2 1 (by omega) W e; simpa [facC] using this, fun W e => by have := h2 2 (by omega) W e; simpa [facC] using this⟩
def prC (x : Pr) : List Value := [.int .i64 x.fac, .int .i64 x.lev]
theorem prC_len (x : Pr) : (prC x).length = 2 := rfl
theorem prC_one (x : Pr) : ∀ u ∈ prC x, u.oneCell' = true := by
  intro u hu
  simp only [prC, List.mem_cons, List.mem_nil_iff, or_false] at hu
  rcases hu with rfl | rfl <;> rfl
abbrev prV (x : Pr) : Value := .agg #[.int .i64 x.fac, .int .i64 x.lev]
abbrev Prs (w : World) (a : Option Addr) (xs : List (Pr)) : Prop := RowAt 2 prC w a xs
theorem pr_at {w : World} {a : Option Addr} {xs : List (Pr)} (h : Prs w a xs) (i : Nat) (hi : i < xs.length) : ∃ b o, a = some ⟨b, o, none⟩ ∧
    (∀ W, Ext w W → W.cell? ⟨b, o + i * 2, none⟩ = some (.int .i64 (pth xs i).fac)) ∧
    (∀ W, Ext w W → W.cell? ⟨b, o + i * 2 + 1, none⟩ = some (.int .i64 (pth xs i).lev)) := by
  obtain ⟨b, o, h1, h2⟩ := RowAt.at prC_len h i hi
  rw [← pth_eq xs i hi] at h2
  refine ⟨b, o, h1, fun W e => by have := h2 0 (by omega) W e; simpa [prC] using this, fun W e => by have := h2 1 (by omega) W e; simpa [prC] using this⟩
def wdC (x : Wd) : List Value := [.int .u16 (x.mask : Int), .bool x.odd]
theorem wdC_len (x : Wd) : (wdC x).length = 2 := rfl
theorem wdC_one (x : Wd) : ∀ u ∈ wdC x, u.oneCell' = true := by
  intro u hu
  simp only [wdC, List.mem_cons, List.mem_nil_iff, or_false] at hu
  rcases hu with rfl | rfl <;> rfl
abbrev wdV (x : Wd) : Value := .agg #[.int .u16 (x.mask : Int), .bool x.odd]
abbrev Wds (w : World) (a : Option Addr) (xs : List (Wd)) : Prop := RowAt 2 wdC w a xs
theorem wd_at {w : World} {a : Option Addr} {xs : List (Wd)} (h : Wds w a xs) (i : Nat) (hi : i < xs.length) : ∃ b o, a = some ⟨b, o, none⟩ ∧
    (∀ W, Ext w W → W.cell? ⟨b, o + i * 2, none⟩ = some (.int .u16 ((wth xs i).mask : Int))) ∧
    (∀ W, Ext w W → W.cell? ⟨b, o + i * 2 + 1, none⟩ = some (.bool (wth xs i).odd)) := by
  obtain ⟨b, o, h1, h2⟩ := RowAt.at wdC_len h i hi
  rw [← wth_eq xs i hi] at h2
  refine ⟨b, o, h1, fun W e => by have := h2 0 (by omega) W e; simpa [wdC] using this, fun W e => by have := h2 1 (by omega) W e; simpa [wdC] using this⟩
def grpC (x : Sl Pr) : List Value := [.slice x.a x.xs.length x.c]
theorem grpC_len (x : Sl Pr) : (grpC x).length = 1 := rfl
theorem grpC_one (x : Sl Pr) : ∀ u ∈ grpC x, u.oneCell' = true := by
  intro u hu
  simp only [grpC, List.mem_cons, List.mem_nil_iff, or_false] at hu
  subst hu; rfl
abbrev grpV (x : Sl Pr) : Value := .slice x.a x.xs.length x.c
abbrev Grps (w : World) (a : Option Addr) (xs : List (Sl Pr)) : Prop := RowAt 1 grpC w a xs
theorem grp_at {w : World} {a : Option Addr} {xs : List (Sl Pr)} (h : Grps w a xs) (i : Nat) (hi : i < xs.length) : ∃ b o, a = some ⟨b, o, none⟩ ∧
    (∀ W, Ext w W → W.cell? ⟨b, o + i, none⟩ = some (.slice (gth xs i).a (gth xs i).xs.length (gth xs i).c)) := by
  obtain ⟨b, o, h1, h2⟩ := RowAt.at grpC_len h i hi
  rw [← gth_eq xs i hi] at h2
  refine ⟨b, o, h1, fun W e => by have := h2 0 (by omega) W e; rw [Nat.mul_one] at this; simpa [grpC] using this⟩
def vecC (x : Sl Int) : List Value := [.slice x.a x.xs.length x.c]
theorem vecC_len (x : Sl Int) : (vecC x).length = 1 := rfl
theorem vecC_one (x : Sl Int) : ∀ u ∈ vecC x, u.oneCell' = true := by
  intro u hu
  simp only [vecC, List.mem_cons, List.mem_nil_iff, or_false] at hu
  subst hu; rfl
abbrev vecV (x : Sl Int) : Value := .slice x.a x.xs.length x.c
abbrev Vecs (w : World) (a : Option Addr) (xs : List (Sl Int)) : Prop := RowAt 1 vecC w a xs
theorem vec_at {w : World} {a : Option Addr} {xs : List (Sl Int)} (h : Vecs w a xs) (i : Nat) (hi : i < xs.length) : ∃ b o, a = some ⟨b, o, none⟩ ∧
    (∀ W, Ext w W → W.cell? ⟨b, o + i, none⟩ = some (.slice (vth xs i).a (vth xs i).xs.length (vth xs i).c)) := by
  obtain ⟨b, o, h1, h2⟩ := RowAt.at vecC_len h i hi
  rw [← vth_eq xs i hi] at h2
  refine ⟨b, o, h1, fun W e => by have := h2 0 (by omega) W e; rw [Nat.mul_one] at this; simpa [vecC] using this⟩
def setC (x : Se) : List Value := [.slice x.lv.a x.lv.xs.length x.lv.c, .int .i64 x.blk]
theorem setC_len (x : Se) : (setC x).length = 2 := rfl
theorem setC_one (x : Se) : ∀ u ∈ setC x, u.oneCell' = true := by
  intro u hu
  simp only [setC, List.mem_cons, List.mem_nil_iff, or_false] at hu
  rcases hu with rfl | rfl <;> rfl
abbrev setV (x : Se) : Value := .agg #[.slice x.lv.a x.lv.xs.length x.lv.c, .int .i64 x.blk]
abbrev Sets (w : World) (a : Option Addr) (xs : List (Se)) : Prop := RowAt 2 setC w a xs
theorem set_at {w : World} {a : Option Addr} {xs : List (Se)} (h : Sets w a xs) (i : Nat) (hi : i < xs.length) : ∃ b o, a = some ⟨b, o, none⟩ ∧
    (∀ W, Ext w W → W.cell? ⟨b, o + i * 2, none⟩ = some (.slice (eth xs i).lv.a (eth xs i).lv.xs.length (eth xs i).lv.c)) ∧
    (∀ W, Ext w W → W.cell? ⟨b, o + i * 2 + 1, none⟩ = some (.int .i64 (eth xs i).blk)) := by
  obtain ⟨b, o, h1, h2⟩ := RowAt.at setC_len h i hi
  rw [← eth_eq xs i hi] at h2
  refine ⟨b, o, h1, fun W e => by have := h2 0 (by omega) W e; simpa [setC] using this, fun W e => by have := h2 1 (by omega) W e; simpa [setC] using this⟩
set_option maxHeartbeats 400000 in
theorem indexFunc_fac (f : Nat) (cap : Array Value) (a : Option Addr) (n c : Nat) (xs : List (Fac)) (p : Fac → Bool) (w : World) (hn : xs.length = n) (hm : n ≤ 1000000) (hx : Facs w a xs)
    (hp : ∀ i, i < n → Asks Tryz.prog f cap w (facV (fth xs i)) (p (fth xs i))) :
    Calls Tryz.prog 125 #[.slice a n c, .func (.func f) #[] cap] w (Ret (.int .i64 (idxOr (xs.findIdx? p))) w) := by
  have HN := Lib.hid hn; clear hn
  go_enter Tryz.func125, Tryz.ntmps125
  go_wp2_with (fail)
  go_loopw [5, 8] (fun _ i wr => ∃ k : Nat, k ≤ n ∧ i = .int .i64 k ∧ Ext w wr ∧ Hid (∀ j, j < k → p (fth xs j) = false)) (fun _ i _ => n - (intOf i).toNat)
  case atStart => exact ⟨0, Nat.zero_le _, rfl, Ext.refl _, fun j hj => by omega⟩
  case round =>
    obtain ⟨k, hk, rfl, he, hf⟩ := hrel
    by_cases hlt : k < n
    · obtain ⟨b, o, rfl, c0, c1, c2⟩ := fac_at hx k (by rw [HN.out]; exact hlt)
      obtain ⟨hen, hq⟩ := hp k hlt
      have HQ := Lib.hid (hq wr he)
      have hen' := hen (#[facV (fth xs k)] ++ cap) wr
      clear hq hen hp
      go_wp2_with (fail)
      refine HQ.out.mono ?_
      rintro e w' ⟨rfl, he'⟩
      have he2 := he.trans he'
      cases hpk : p (fth xs k)
      · have hf2 : Hid (∀ j, j < k + 1 → p (fth xs j) = false) := fun j hj => by
          rcases Nat.lt_succ_iff_lt_or_eq.1 hj with h | h
          · exact hf.out j h
          · rw [h]; exact hpk
        clear hpk
        go_wp2_with (fail)
        go_roundw
        case rel => exact ⟨k + 1, by omega, by go_num, he2, hf2⟩
        case measure => simp [intOf]; omega
      · have H2 := Lib.hid (findIdx_some fth fth_eq p xs k (by rw [HN.out]; exact hlt) hpk hf.out)
        clear hpk
        go_wp2_with (fail)
        go_ret
        exact ⟨by rw [H2.out]; rfl, he2⟩
    · have H2 := Lib.hid (findIdx_none fth fth_eq p xs (fun j hj => hf.out j (by rw [HN.out] at hj; omega)))
      go_wp2_with (fail)
      go_ret
      exact ⟨by rw [H2.out]; rfl, he⟩
set_option maxHeartbeats 400000 in
theorem containsFunc_fac (f : Nat) (cap : Array Value) (a : Option Addr) (n c : Nat) (xs : List (Fac)) (p : Fac → Bool) (w : World) (hn : xs.length = n) (hm : n ≤ 1000000) (hx : Facs w a xs)
    (hp : ∀ i, i < n → Asks Tryz.prog f cap w (facV (fth xs i)) (p (fth xs i))) :
    Calls Tryz.prog 92 #[.slice a n c, .func (.func f) #[] cap] w (Ret (.bool (xs.any p)) w) := by
  have H := Lib.hid (indexFunc_fac f cap a n c xs p w hn hm hx hp)
  clear hp
  rw [any_idx]
  go_enter Tryz.func92, Tryz.ntmps92
  go_wp2_with (go_at_call 125; refine H.out.mono ?_; rintro e w' ⟨rfl, he⟩)
  go_ret
  exact ⟨rfl, he⟩
set_option maxHeartbeats 400000 in
theorem indexFunc_pr (f : Nat) (cap : Array Value) (a : Option Addr) (n c : Nat) (xs : List (Pr)) (p : Pr → Bool) (w : World) (hn : xs.length = n) (hm : n ≤ 1000000) (hx : Prs w a xs)
    (hp : ∀ i, i < n → Asks Tryz.prog f cap w (prV (pth xs i)) (p (pth xs i))) :
    Calls Tryz.prog 146 #[.slice a n c, .func (.func f) #[] cap] w (Ret (.int .i64 (idxOr (xs.findIdx? p))) w) := by
  have HN := Lib.hid hn; clear hn
  go_enter Tryz.func146, Tryz.ntmps146
  go_wp2_with (fail)
  go_loopw [5, 8] (fun _ i wr => ∃ k : Nat, k ≤ n ∧ i = .int .i64 k ∧ Ext w wr ∧ Hid (∀ j, j < k → p (pth xs j) = false)) (fun _ i _ => n - (intOf i).toNat)
  case atStart => exact ⟨0, Nat.zero_le _, rfl, Ext.refl _, fun j hj => by omega⟩
  case round =>
    obtain ⟨k, hk, rfl, he, hf⟩ := hrel
    by_cases hlt : k < n
    · obtain ⟨b, o, rfl, c0, c1⟩ := pr_at hx k (by rw [HN.out]; exact hlt)
      obtain ⟨hen, hq⟩ := hp k hlt
      have HQ := Lib.hid (hq wr he)
      have hen' := hen (#[prV (pth xs k)] ++ cap) wr
      clear hq hen hp
      go_wp2_with (fail)
      refine HQ.out.mono ?_
      rintro e w' ⟨rfl, he'⟩
      have he2 := he.trans he'
      cases hpk : p (pth xs k)
      · have hf2 : Hid (∀ j, j < k + 1 → p (pth xs j) = false) := fun j hj => by
          rcases Nat.lt_succ_iff_lt_or_eq.1 hj with h | h
          · exact hf.out j h
          · rw [h]; exact hpk
        clear hpk
        go_wp2_with (fail)
        go_roundw
        case rel => exact ⟨k + 1, by omega, by go_num, he2, hf2⟩
        case measure => simp [intOf]; omega
      · have H2 := Lib.hid (findIdx_some pth pth_eq p xs k (by rw [HN.out]; exact hlt) hpk hf.out)
        clear hpk
        go_wp2_with (fail)
        go_ret
        exact ⟨by rw [H2.out]; rfl, he2⟩
    · have H2 := Lib.hid (findIdx_none pth pth_eq p xs (fun j hj => hf.out j (by rw [HN.out] at hj; omega)))
      go_wp2_with (fail)
      go_ret
      exact ⟨by rw [H2.out]; rfl, he⟩
set_option maxHeartbeats 400000 in
theorem containsFunc_pr (f : Nat) (cap : Array Value) (a : Option Addr) (n c : Nat) (xs : List (Pr)) (p : Pr → Bool) (w : World) (hn : xs.length = n) (hm : n ≤ 1000000) (hx : Prs w a xs)
    (hp : ∀ i, i < n → Asks Tryz.prog f cap w (prV (pth xs i)) (p (pth xs i))) :
    Calls Tryz.prog 117 #[.slice a n c, .func (.func f) #[] cap] w (Ret (.bool (xs.any p)) w) := by
  have H := Lib.hid (indexFunc_pr f cap a n c xs p w hn hm hx hp)
  clear hp
  rw [any_idx]
  go_enter Tryz.func117, Tryz.ntmps117
  go_wp2_with (go_at_call 146; refine H.out.mono ?_; rintro e w' ⟨rfl, he⟩)
  go_ret
  exact ⟨rfl, he⟩
set_option maxHeartbeats 400000 in
theorem indexFunc_wd (f : Nat) (cap : Array Value) (a : Option Addr) (n c : Nat) (xs : List (Wd)) (p : Wd → Bool) (w : World) (hn : xs.length = n) (hm : n ≤ 1000000) (hx : Wds w a xs)
    (hp : ∀ i, i < n → Asks Tryz.prog f cap w (wdV (wth xs i)) (p (wth xs i))) :
    Calls Tryz.prog 119 #[.slice a n c, .func (.func f) #[] cap] w (Ret (.int .i64 (idxOr (xs.findIdx? p))) w) := by
  have HN := Lib.hid hn; clear hn
  go_enter Tryz.func119, Tryz.ntmps119
  go_wp2_with (fail)
  go_loopw [5, 8] (fun _ i wr => ∃ k : Nat, k ≤ n ∧ i = .int .i64 k ∧ Ext w wr ∧ Hid (∀ j, j < k → p (wth xs j) = false)) (fun _ i _ => n - (intOf i).toNat)
  case atStart => exact ⟨0, Nat.zero_le _, rfl, Ext.refl _, fun j hj => by omega⟩
  case round =>
    obtain ⟨k, hk, rfl, he, hf⟩ := hrel
    by_cases hlt : k < n
    · obtain ⟨b, o, rfl, c0, c1⟩ := wd_at hx k (by rw [HN.out]; exact hlt)
      obtain ⟨hen, hq⟩ := hp k hlt
      have HQ := Lib.hid (hq wr he)
      have hen' := hen (#[wdV (wth xs k)] ++ cap) wr
      clear hq hen hp
      go_wp2_with (fail)
      refine HQ.out.mono ?_
      rintro e w' ⟨rfl, he'⟩
      have he2 := he.trans he'
      cases hpk : p (wth xs k)
      · have hf2 : Hid (∀ j, j < k + 1 → p (wth xs j) = false) := fun j hj => by
          rcases Nat.lt_succ_iff_lt_or_eq.1 hj with h | h
          · exact hf.out j h
          · rw [h]; exact hpk
        clear hpk
        go_wp2_with (fail)
        go_roundw
        case rel => exact ⟨k + 1, by omega, by go_num, he2, hf2⟩
        case measure => simp [intOf]; omega
      · have H2 := Lib.hid (findIdx_some wth wth_eq p xs k (by rw [HN.out]; exact hlt) hpk hf.out)
        clear hpk
        go_wp2_with (fail)
        go_ret
        exact ⟨by rw [H2.out]; rfl, he2⟩
    · have H2 := Lib.hid (findIdx_none wth wth_eq p xs (fun j hj => hf.out j (by rw [HN.out] at hj; omega)))
      go_wp2_with (fail)
      go_ret
      exact ⟨by rw [H2.out]; rfl, he⟩
set_option maxHeartbeats 400000 in
theorem containsFunc_wd (f : Nat) (cap : Array Value) (a : Option Addr) (n c : Nat) (xs : List (Wd)) (p : Wd → Bool) (w : World) (hn : xs.length = n) (hm : n ≤ 1000000) (hx : Wds w a xs)
    (hp : ∀ i, i < n → Asks Tryz.prog f cap w (wdV (wth xs i)) (p (wth xs i))) :
    Calls Tryz.prog 84 #[.slice a n c, .func (.func f) #[] cap] w (Ret (.bool (xs.any p)) w) := by
  have H := Lib.hid (indexFunc_wd f cap a n c xs p w hn hm hx hp)
  clear hp
  rw [any_idx]
  go_enter Tryz.func84, Tryz.ntmps84
  go_wp2_with (go_at_call 119; refine H.out.mono ?_; rintro e w' ⟨rfl, he⟩)
  go_ret
  exact ⟨rfl, he⟩
set_option maxHeartbeats 400000 in
theorem indexFunc_grp (f : Nat) (cap : Array Value) (a : Option Addr) (n c : Nat) (xs : List (Sl Pr)) (p : Sl Pr → Bool) (w : World) (hn : xs.length = n) (hm : n ≤ 1000000) (hx : Grps w a xs)
    (hp : ∀ i, i < n → Asks Tryz.prog f cap w (grpV (gth xs i)) (p (gth xs i))) :
    Calls Tryz.prog 145 #[.slice a n c, .func (.func f) #[] cap] w (Ret (.int .i64 (idxOr (xs.findIdx? p))) w) := by
  have HN := Lib.hid hn; clear hn
  go_enter Tryz.func145, Tryz.ntmps145
  go_wp2_with (fail)
  go_loopw [5, 8] (fun _ i wr => ∃ k : Nat, k ≤ n ∧ i = .int .i64 k ∧ Ext w wr ∧ Hid (∀ j, j < k → p (gth xs j) = false)) (fun _ i _ => n - (intOf i).toNat)
  case atStart => exact ⟨0, Nat.zero_le _, rfl, Ext.refl _, fun j hj => by omega⟩
  case round =>
    obtain ⟨k, hk, rfl, he, hf⟩ := hrel
    by_cases hlt : k < n
    · obtain ⟨b, o, rfl, c0⟩ := grp_at hx k (by rw [HN.out]; exact hlt)
      obtain ⟨hen, hq⟩ := hp k hlt
      have HQ := Lib.hid (hq wr he)
      have hen' := hen (#[grpV (gth xs k)] ++ cap) wr
      clear hq hen hp
      go_wp2_with (fail)
      refine HQ.out.mono ?_
      rintro e w' ⟨rfl, he'⟩
      have he2 := he.trans he'
      cases hpk : p (gth xs k)
      · have hf2 : Hid (∀ j, j < k + 1 → p (gth xs j) = false) := fun j hj => by
          rcases Nat.lt_succ_iff_lt_or_eq.1 hj with h | h
          · exact hf.out j h
          · rw [h]; exact hpk
        clear hpk
        go_wp2_with (fail)
        go_roundw
        case rel => exact ⟨k + 1, by omega, by go_num, he2, hf2⟩
        case measure => simp [intOf]; omega
      · have H2 := Lib.hid (findIdx_some gth gth_eq p xs k (by rw [HN.out]; exact hlt) hpk hf.out)
        clear hpk
        go_wp2_with (fail)
        go_ret
        exact ⟨by rw [H2.out]; rfl, he2⟩
    · have H2 := Lib.hid (findIdx_none gth gth_eq p xs (fun j hj => hf.out j (by rw [HN.out] at hj; omega)))
      go_wp2_with (fail)
      go_ret
      exact ⟨by rw [H2.out]; rfl, he⟩
set_option maxHeartbeats 400000 in
theorem containsFunc_grp (f : Nat) (cap : Array Value) (a : Option Addr) (n c : Nat) (xs : List (Sl Pr)) (p : Sl Pr → Bool) (w : World) (hn : xs.length = n) (hm : n ≤ 1000000) (hx : Grps w a xs)
    (hp : ∀ i, i < n → Asks Tryz.prog f cap w (grpV (gth xs i)) (p (gth xs i))) :
    Calls Tryz.prog 115 #[.slice a n c, .func (.func f) #[] cap] w (Ret (.bool (xs.any p)) w) := by
  have H := Lib.hid (indexFunc_grp f cap a n c xs p w hn hm hx hp)
  clear hp
  rw [any_idx]
  go_enter Tryz.func115, Tryz.ntmps115
  go_wp2_with (go_at_call 145; refine H.out.mono ?_; rintro e w' ⟨rfl, he⟩)
  go_ret
  exact ⟨rfl, he⟩
set_option maxHeartbeats 400000 in
theorem indexFunc_set (f : Nat) (cap : Array Value) (a : Option Addr) (n c : Nat) (xs : List (Se)) (p : Se → Bool) (w : World) (hn : xs.length = n) (hm : n ≤ 1000000) (hx : Sets w a xs)
    (hp : ∀ i, i < n → Asks Tryz.prog f cap w (setV (eth xs i)) (p (eth xs i))) :
    Calls Tryz.prog 132 #[.slice a n c, .func (.func f) #[] cap] w (Ret (.int .i64 (idxOr (xs.findIdx? p))) w) := by
  have HN := Lib.hid hn; clear hn
  go_enter Tryz.func132, Tryz.ntmps132
  go_wp2_with (fail)
  go_loopw [5, 8] (fun _ i wr => ∃ k : Nat, k ≤ n ∧ i = .int .i64 k ∧ Ext w wr ∧ Hid (∀ j, j < k → p (eth xs j) = false)) (fun _ i _ => n - (intOf i).toNat)
  case atStart => exact ⟨0, Nat.zero_le _, rfl, Ext.refl _, fun j hj => by omega⟩
  case round =>
    obtain ⟨k, hk, rfl, he, hf⟩ := hrel
    by_cases hlt : k < n
    · obtain ⟨b, o, rfl, c0, c1⟩ := set_at hx k (by rw [HN.out]; exact hlt)
      obtain ⟨hen, hq⟩ := hp k hlt
      have HQ := Lib.hid (hq wr he)
      have hen' := hen (#[setV (eth xs k)] ++ cap) wr
      clear hq hen hp
      go_wp2_with (fail)
      refine HQ.out.mono ?_
      rintro e w' ⟨rfl, he'⟩
      have he2 := he.trans he'
      cases hpk : p (eth xs k)
      · have hf2 : Hid (∀ j, j < k + 1 → p (eth xs j) = false) := fun j hj => by
          rcases Nat.lt_succ_iff_lt_or_eq.1 hj with h | h
          · exact hf.out j h
          · rw [h]; exact hpk
        clear hpk
        go_wp2_with (fail)
        go_roundw
        case rel => exact ⟨k + 1, by omega, by go_num, he2, hf2⟩
        case measure => simp [intOf]; omega
      · have H2 := Lib.hid (findIdx_some eth eth_eq p xs k (by rw [HN.out]; exact hlt) hpk hf.out)
        clear hpk
        go_wp2_with (fail)
        go_ret
        exact ⟨by rw [H2.out]; rfl, he2⟩
    · have H2 := Lib.hid (findIdx_none eth eth_eq p xs (fun j hj => hf.out j (by rw [HN.out] at hj; omega)))
      go_wp2_with (fail)
      go_ret
      exact ⟨by rw [H2.out]; rfl, he⟩
set_option maxHeartbeats 400000 in
theorem containsFunc_set (f : Nat) (cap : Array Value) (a : Option Addr) (n c : Nat) (xs : List (Se)) (p : Se → Bool) (w : World) (hn : xs.length = n) (hm : n ≤ 1000000) (hx : Sets w a xs)
    (hp : ∀ i, i < n → Asks Tryz.prog f cap w (setV (eth xs i)) (p (eth xs i))) :
    Calls Tryz.prog 106 #[.slice a n c, .func (.func f) #[] cap] w (Ret (.bool (xs.any p)) w) := by
  have H := Lib.hid (indexFunc_set f cap a n c xs p w hn hm hx hp)
  clear hp
  rw [any_idx]
  go_enter Tryz.func106, Tryz.ntmps106
  go_wp2_with (go_at_call 132; refine H.out.mono ?_; rintro e w' ⟨rfl, he⟩)
  go_ret
  exact ⟨rfl, he⟩
theorem int_at {w : World} {a : Option Addr} {xs : List Int} (h : Ints w a xs) (i : Nat) (hi : i < xs.length) : ∃ b o, a = some ⟨b, o, none⟩ ∧ ∀ W, Ext w W → W.cell? ⟨b, o + i, none⟩ = some (.int .i64 (nth xs i)) := h.at i hi
abbrev intV (x : Int) : Value := .int .i64 x
set_option maxHeartbeats 400000 in
theorem indexFunc_int (f : Nat) (cap : Array Value) (a : Option Addr) (n c : Nat) (xs : List (Int)) (p : Int → Bool) (w : World) (hn : xs.length = n) (hm : n ≤ 1000000) (hx : Ints w a xs)
    (hp : ∀ i, i < n → Asks Tryz.prog f cap w (intV (nth xs i)) (p (nth xs i))) :
    Calls Tryz.prog 131 #[.slice a n c, .func (.func f) #[] cap] w (Ret (.int .i64 (idxOr (xs.findIdx? p))) w) := by
  have HN := Lib.hid hn; clear hn
  go_enter Tryz.func131, Tryz.ntmps131
  go_wp2_with (fail)
  go_loopw [5, 8] (fun _ i wr => ∃ k : Nat, k ≤ n ∧ i = .int .i64 k ∧ Ext w wr ∧ Hid (∀ j, j < k → p (nth xs j) = false)) (fun _ i _ => n - (intOf i).toNat)
  case atStart => exact ⟨0, Nat.zero_le _, rfl, Ext.refl _, fun j hj => by omega⟩
  case round =>
    obtain ⟨k, hk, rfl, he, hf⟩ := hrel
    by_cases hlt : k < n
    · obtain ⟨b, o, rfl, c0⟩ := int_at hx k (by rw [HN.out]; exact hlt)
      obtain ⟨hen, hq⟩ := hp k hlt
      have HQ := Lib.hid (hq wr he)
      have hen' := hen (#[intV (nth xs k)] ++ cap) wr
      clear hq hen hp
      go_wp2_with (fail)
      refine HQ.out.mono ?_
      rintro e w' ⟨rfl, he'⟩
      have he2 := he.trans he'
      cases hpk : p (nth xs k)
      · have hf2 : Hid (∀ j, j < k + 1 → p (nth xs j) = false) := fun j hj => by
          rcases Nat.lt_succ_iff_lt_or_eq.1 hj with h | h
          · exact hf.out j h
          · rw [h]; exact hpk
        clear hpk
        go_wp2_with (fail)
        go_roundw
        case rel => exact ⟨k + 1, by omega, by go_num, he2, hf2⟩
        case measure => simp [intOf]; omega
      · have H2 := Lib.hid (findIdx_some nth nth_eq p xs k (by rw [HN.out]; exact hlt) hpk hf.out)
        clear hpk
        go_wp2_with (fail)
        go_ret
        exact ⟨by rw [H2.out]; rfl, he2⟩
    · have H2 := Lib.hid (findIdx_none nth nth_eq p xs (fun j hj => hf.out j (by rw [HN.out] at hj; omega)))
      go_wp2_with (fail)
      go_ret
      exact ⟨by rw [H2.out]; rfl, he⟩
set_option maxHeartbeats 400000 in
theorem containsFunc_int (f : Nat) (cap : Array Value) (a : Option Addr) (n c : Nat) (xs : List (Int)) (p : Int → Bool) (w : World) (hn : xs.length = n) (hm : n ≤ 1000000) (hx : Ints w a xs)
    (hp : ∀ i, i < n → Asks Tryz.prog f cap w (intV (nth xs i)) (p (nth xs i))) :
    Calls Tryz.prog 128 #[.slice a n c, .func (.func f) #[] cap] w (Ret (.bool (xs.any p)) w) := by
  have H := Lib.hid (indexFunc_int f cap a n c xs p w hn hm hx hp)
  clear hp
  rw [any_idx]
  go_enter Tryz.func128, Tryz.ntmps128
  go_wp2_with (go_at_call 131; refine H.out.mono ?_; rintro e w' ⟨rfl, he⟩)
  go_ret
  exact ⟨rfl, he⟩
end Go.Proofs.YtplbofhgmflnlaaGreat
end
section
/-
  Rows of numbers (printed by genmc.py out of this repo's own texts of the hall).
-/
set_option linter.unusedVariables false
set_option linter.unusedSimpArgs false
namespace Go.Proofs.YtplbofhgmflnlaaGreat
open Go.RowKit
def fl (n : Nat) (f : Nat → Int) : List Int := (List.range n).map f
theorem fl_len (n : Nat) (f : Nat → Int) : (fl n f).length = n := by simp [fl]
theorem nth_fl (n : Nat) (f : Nat → Int) (i : Nat) (h : i < n) : nth (fl n f) i = f i := by simp [fl, nth, h]
theorem fl_congr (n : Nat) (f g : Nat → Int) (h : ∀ i, i < n → f i = g i) : fl n f = fl n g := by
  unfold fl; exact List.map_congr_left fun i hi => h i (by simpa using hi)
theorem ext_nth (xs ys : List Int) (hl : xs.length = ys.length) (h : ∀ i, i < xs.length → nth xs i = nth ys i) : xs = ys := by
  apply List.ext_getElem hl
  intro i h1 h2
  have := h i h1
  rwa [nth_eq _ _ h1, nth_eq _ _ h2] at this
def rowI (xs : List Int) : List Value := xs.map (Value.int .i64)
theorem rowI_len (xs : List Int) : (rowI xs).length = xs.length := by simp [rowI]
theorem rowI_get (xs : List Int) (i : Nat) (h : i < xs.length) : (rowI xs)[i]? = some (.int .i64 (nth xs i)) := by simp [rowI, nth_eq _ _ h, h]
theorem rowI_set (n : Nat) (f : Nat → Int) (j : Nat) (v : Int) : (rowI (fl n f)).set j (.int .i64 v) = rowI (fl n fun i => if i = j then v else f i) := by
  unfold rowI fl
  apply List.ext_getElem
  · simp
  · intro i h1 h2
    simp only [List.getElem_set, List.getElem_map, List.getElem_range]
    by_cases h : i = j
    · simp [h]
    · have h' : ¬ j = i := fun e => h e.symm
      simp [h, h']
def OwnI (w : World) (B : Nat) (v : Value) (xs : List Int) : Prop := w.ownsRow B 3 1 v xs.length (rowI xs)
theorem OwnI.ints {w : World} {B : Nat} {a : Option Addr} {n c : Nat} {xs : List Int} (h : OwnI w B (.slice a n c) xs) : Ints w a xs ∧ n = xs.length ∧ n ≤ c := by
  obtain ⟨h1, h2⟩ := h
  rcases h2 with ⟨hv, hn⟩ | ⟨g, cap, cur, hv, hg, hh, hnc, hcm, hs, ht⟩
  · simp only [Value.slice.injEq] at hv
    have : xs = [] := List.length_eq_zero_iff.1 hn
    exact ⟨.inl this, by omega, by omega⟩
  · simp only [Value.slice.injEq] at hv
    obtain ⟨rfl, rfl, rfl⟩ := hv
    refine ⟨.inr ⟨g, 0, rfl, fun i hi => ?_⟩, rfl, hnc⟩
    have hi' : i < cur.toList.length := by rw [Array.length_toList, hs]; omega
    have h3 : (cur.toList.take (xs.length * 1))[i]? = cur.toList[i]? := by rw [List.getElem?_take]; simp [hi]
    rw [ht, rowI_get xs i hi] at h3
    simp only [World.cell?, hh, Option.isSome_none, Bool.false_eq_true, if_false, Nat.zero_add]
    rw [← Array.getElem?_toList, ← h3]
theorem OwnI.ext {w w' : World} {B : Nat} {v : Value} {xs : List Int} (h : OwnI w B v xs) (e : Ext w w') : OwnI w' B v xs := by
  obtain ⟨h1, h2⟩ := h
  refine ⟨h1, ?_⟩
  rcases h2 with h2 | ⟨g, cap, cur, hv, hg, hh, r⟩
  · exact .inl h2
  · exact .inr ⟨g, cap, cur, hv, hg, e.block hh, r⟩
def RetI (xs : List Int) (w : World) (e : Ending) (w' : World) : Prop := ∃ a c, e = .returned (.slice a xs.length c) ∧ Ext w w' ∧ OwnI w' w.heap.size (.slice a xs.length c) xs
theorem info3 : (Tryz.prog.info? 3).map (fun i => (i.zero, i.size, i.bytes)) = some (some (.int .i64 0), 1, 8) := by kernel_rfl
theorem make_ints (w : World) (n : Nat) (hn : n ≤ 1000000) : ∃ w', (Instr.makeSlice 31 (.int .i64 (n : Int)) (.int .i64 (n : Int))).run Tryz.prog w = .ok (.slice (some ⟨w.heap.size, 0, none⟩) n n) w' ∧
    OwnI w' w.heap.size (.slice (some ⟨w.heap.size, 0, none⟩) n n) (fl n fun _ => 0) ∧ Ext w w' ∧ w.heap.size < w'.heap.size := by
  obtain ⟨i0, hi, hz0, hz1, hz2⟩ := info_parts info3
  obtain ⟨w', h1, h2, h3⟩ := run_make_full (P := Tryz.prog) w w.heap.size 31 3 i0 (.int .i64 0) 1 Tryz.underlying31 hi hz0 hz1 .i64 .i64 n (by rw [hz2]; omega) (by unfold maxLen; omega) (Nat.le_refl _)
  refine ⟨w', h1, ?_, ⟨h3.os, h3.tape, h3.output, h3.size, fun k hk => h3.block k hk (by simp)⟩, ?_⟩
  · unfold OwnI
    rw [fl_len]
    have : (madeCells (Value.int IntKind.i64 0).cells (n * 1)).toList = rowI (fl n fun _ => 0) := by
      show (madeCells #[Value.int IntKind.i64 0] (n * 1)).toList = _
      rw [Nat.mul_one, toList_madeCells_one]
      unfold rowI fl
      apply List.ext_getElem
      · simp
      · intro i h1 h2; simp
    rw [← this]
    exact h2
  · exact (h2.lt w.heap.size rfl).2
def madeI (W : World) (n : Nat) : World := W.alloc (.cells (madeCells #[.int .i64 0] n) 3)
theorem run_madeI (n : Nat) (hn : n ≤ 1000000) (W : World) : (Instr.makeSlice 31 (.int .i64 (n : Int)) (.int .i64 (n : Int))).run Tryz.prog W = .ok (.slice (some ⟨W.heap.size, 0, none⟩) n n) (madeI W n) := by
  obtain ⟨i0, hi, hz0, hz1, hz2⟩ := info_parts info3
  have := run_make (P := Tryz.prog) W 31 3 i0 (.int .i64 0) Tryz.underlying31 hi hz0 .i64 .i64 n n
  rw [hz1, hz2] at this
  have h := this (by omega) (by omega) (by omega) (by omega)
  rw [Int.toNat_natCast, Nat.mul_one] at h
  exact h
theorem madeI_facts {W w1 : World} {n : Nat} (hn : n ≤ 1000000) (h : madeI W n = w1) : Ext W w1 ∧ OwnI w1 W.heap.size (.slice (some ⟨W.heap.size, 0, none⟩) n n) (fl n fun _ => 0) ∧ w1.heap.size = W.heap.size + 1 := by
  subst h
  obtain ⟨w', h1, h2, h3, h4⟩ := make_ints W n hn
  rw [run_madeI n hn W] at h1
  simp only [Result.ok.injEq, true_and] at h1
  subst h1
  exact ⟨h3, h2, heap_size _ _⟩
theorem rowI_one (xs : List Int) : ∀ u ∈ rowI xs, u.oneCell' = true := by
  intro u hu
  simp only [rowI, List.mem_map] at hu
  obtain ⟨x, _, rfl⟩ := hu
  rfl
theorem Ints.src {w : World} {a : Option Addr} {xs : List Int} (h : Ints w a xs) : Src w a (rowI xs) := by
  rcases h with rfl | ⟨b, o, h1, h2⟩
  · exact .inl rfl
  · refine .inr ⟨_, h1, fun j u hj => ?_⟩
    have hlt : j < xs.length := by
      rcases Nat.lt_or_ge j xs.length with h | h
      · exact h
      · rw [List.getElem?_eq_none (by rw [rowI_len]; exact h)] at hj; cases hj
    rw [rowI_get xs j hlt] at hj
    simp only [Option.some.injEq] at hj
    rw [← hj, Addr.add_lit]
    exact h2 j hlt
theorem app_ints (w : World) (B : Nat) (ty : TypeId) (v : Value) (xs ys : List Int) (a : Option Addr) (c : Nat) (hv : OwnI w B v xs) (hx : Ints w a ys) (hn : xs.length + ys.length ≤ 17000000000000) (hB : B ≤ w.heap.size) :
    ∃ v' w', (Builtin.append_ #[31, 31] ty #[v, .slice a ys.length c]).run Tryz.prog w = .ok v' w' ∧ OwnI w' B v' (xs ++ ys) ∧ w.grownBy w' v.ownBlock := by
  obtain ⟨i0, hi, hz0, hz1, hz2⟩ := info_parts info3
  obtain ⟨v', w', h1, h2, h3⟩ := run_app w B 31 ty 3 i0 (.int .i64 0) 1 8 Tryz.underlying31 hi hz0 hz1 hz2 rfl (by omega) v xs.length (rowI xs) hv a ys.length c (rowI ys) (by rw [rowI_len]; omega) hx.src (rowI_one ys) (by unfold maxLen; omega) (by omega) hB
  refine ⟨v', w', h1, ?_, h3⟩
  unfold OwnI
  rw [List.length_append]
  have e : rowI (xs ++ ys) = rowI xs ++ rowI ys := by simp [rowI]
  rw [e]
  exact h2
theorem app_ints0 (W : World) (g B : Nat) (ty : TypeId) (ys : List Int) (a : Option Addr) (c : Nat) (hb : W.heap[g]? = some (.cells #[] 3 (0, 0))) (hB : B ≤ g) (hx : Ints W a ys) (hn : ys.length ≤ 1000000) :
    ∃ v' w', (Builtin.append_ #[31, 31] ty #[.slice (some ⟨g, 0, none⟩) 0 0, .slice a ys.length c]).run Tryz.prog W = .ok v' w' ∧ Lies W g v' ys.length ∧ OwnI w' B v' ys ∧ W.grownBy w' (some g) := by
  obtain ⟨i0, hi, hz0, hz1, hz2⟩ := info_parts info3
  exact run_app0 W g B 31 ty 3 i0 (.int .i64 0) 1 8 Tryz.underlying31 hi hz0 hz1 hz2 rfl (by omega) hb hB a ys.length c (rowI ys) (by rw [rowI_len]; omega) hx.src (rowI_one ys) (by unfold maxLen; omega) (by omega)
theorem ownI_set {w : World} {B g n c j : Nat} {f : Nat → Int} (h : OwnI w B (.slice (some ⟨g, 0, none⟩) n c) (fl n f)) (v : Int) :
    OwnI (w.setCell ⟨g, j, none⟩ (.int .i64 v)) B (.slice (some ⟨g, 0, none⟩) n c) (fl n fun i => if i = j then v else f i) := by
  unfold OwnI at *
  rw [fl_len] at *
  have := (h.stored j (.int .i64 v)).1
  rw [rowI_set] at this
  exact this
theorem ownI_free {w : World} {B g n c : Nat} {xs : List Int} (hn : xs.length = n) (h : OwnI w B (.slice (some ⟨g, 0, none⟩) n c) xs) (j : Nat) : w.frozen? ⟨g, j, none⟩ = false := by
  subst hn; exact h.frozenAt j
theorem ownI_cell {w : World} {B g n c : Nat} {xs : List Int} (hn : xs.length = n) (h : OwnI w B (.slice (some ⟨g, 0, none⟩) n c) xs) (j : Nat) (hj : j < n) : w.cell? ⟨g, j, none⟩ = some (.int .i64 (nth xs j)) := by
  subst hn; rw [h.cellAt j (by omega), rowI_get _ _ hj]
theorem ints_none {w : World} {xs : List Int} (h : Ints w none xs) : xs = [] := by
  rcases h with h | ⟨b, o, h1, _⟩
  · exact h
  · cases h1
theorem grown_ext {w w1 w' : World} {v : Value} (he : Ext w w1) (hg : w1.grownBy w' v.ownBlock) (hb : ∀ k, v.ownBlock = some k → w.heap.size ≤ k) : Ext w w' := Below.grown he hg he.size hb
theorem own_block {w : World} {B : Nat} {v : Value} {xs : List Int} (h : OwnI w B v xs) : ∀ k, v.ownBlock = some k → B ≤ k := fun k hk => (h.lt k hk).1
theorem own_slice {w : World} {B : Nat} {v : Value} {xs : List Int} (h : OwnI w B v xs) : ∃ a n c, v = .slice a n c := by
  rcases h.2 with ⟨h, _⟩ | ⟨g, cap, cur, h, _⟩
  · exact ⟨_, _, _, h⟩
  · exact ⟨_, _, _, h⟩
theorem ints_one {w : World} {b : Nat} {x : Int} {fz : Nat × Nat} (h : w.heap[b]? = some (.cells #[.int .i64 x] 3 fz)) : Ints w (some ⟨b, 0, none⟩) [x] := by
  have c0 := obj_cells1 h
  refine .inr ⟨b, 0, rfl, fun i hi => ?_⟩
  obtain rfl : i = 0 := by simp at hi; omega
  exact c0 w (Ext.refl w)
theorem own_down {w : World} {B B' : Nat} {v : Value} {xs : List Int} (h : OwnI w B v xs) (hb : B' ≤ B) : OwnI w B' v xs := by
  obtain ⟨h1, h2⟩ := h
  refine ⟨h1, ?_⟩
  rcases h2 with h2 | ⟨g, cap, cur, hv, hg, r⟩
  · exact .inl h2
  · exact .inr ⟨g, cap, cur, hv, by omega, r⟩
theorem own_lit0 (w : World) : OwnI (w.alloc (.cells #[] 3)) w.heap.size (.slice (some ⟨w.heap.size, 0, none⟩) 0 0) [] := own_empty w 3 1
theorem ownI_blk {w : World} {b B : Nat} {xs : List Int} (h : w.heap[b]? = some (.cells (rowI xs).toArray 3 (0, 0))) (hB : B ≤ b) (hn : xs.length ≤ 1000000) : OwnI w B (.slice (some ⟨b, 0, none⟩) xs.length xs.length) xs :=
  ⟨by rw [rowI_len]; omega, .inr ⟨b, xs.length, _, rfl, hB, h, Nat.le_refl _, by unfold maxLen; omega, by simp [rowI_len], by show (rowI xs).take (xs.length * 1) = _; exact List.take_of_length_le (by rw [rowI_len]; omega)⟩⟩
theorem ints_blk {w : World} {b : Nat} {xs : List Int} (h : w.heap[b]? = some (.cells (rowI xs).toArray 3 (0, 0))) (hn : xs.length ≤ 1000000) : Ints w (some ⟨b, 0, none⟩) xs := (ownI_blk h (Nat.zero_le _) hn).ints.1
theorem nth_set (xs : List Int) (k i : Nat) (v : Int) (hi : i < xs.length) : nth (xs.set k v) i = if i = k then v else nth xs i := by
  rw [nth_eq _ _ (by simpa using hi), nth_eq _ _ hi, List.getElem_set]
  by_cases h : k = i
  · rw [if_pos h, if_pos h.symm]
  · rw [if_neg h, if_neg (fun e => h e.symm)]
theorem ownI_set2 {w : World} {B g n c j : Nat} {xs : List Int} (hn : xs.length = n) (h : OwnI w B (.slice (some ⟨g, 0, none⟩) n c) xs) (v : Int) : OwnI (w.setCell ⟨g, j, none⟩ (.int .i64 v)) B (.slice (some ⟨g, 0, none⟩) n c) (xs.set j v) := by
  subst hn
  unfold OwnI at *
  have := (h.stored j (.int .i64 v)).1
  rw [List.length_set]
  have e : (rowI xs).set j (.int .i64 v) = rowI (xs.set j v) := by
    unfold rowI; rw [List.map_set]
  rw [e] at this
  exact this
def IntsX (X : Nat) (w : World) (a : Option Addr) (xs : List Int) : Prop :=
  xs = [] ∨ ∃ b o, a = some ⟨b, o, none⟩ ∧ b ≠ X ∧ ∀ i, i < xs.length → w.cell? ⟨b, o + i, none⟩ = some (.int .i64 (nth xs i))
theorem IntsX.ints {X : Nat} {w : World} {a : Option Addr} {xs : List Int} (h : IntsX X w a xs) : Ints w a xs := by
  rcases h with h | ⟨b, o, h1, _, h2⟩
  · exact .inl h
  · exact .inr ⟨b, o, h1, h2⟩
theorem IntsX.extX {X : Nat} {w w' : World} {a : Option Addr} {xs : List Int} (h : IntsX X w a xs) (e : ExtX X w w') : IntsX X w' a xs := by
  rcases h with h | ⟨b, o, h1, hx, h2⟩
  · exact .inl h
  · exact .inr ⟨b, o, h1, hx, fun i hi => e.cell (h2 i hi) hx⟩
theorem IntsX.ext {X : Nat} {w w' : World} {a : Option Addr} {xs : List Int} (h : IntsX X w a xs) (e : Ext w w') : IntsX X w' a xs := h.extX e.x
theorem Ints.x {X : Nat} {w : World} {a : Option Addr} {xs : List Int} (h : Ints w a xs) (hX : w.heap.size ≤ X) : IntsX X w a xs := by
  rcases h with h | ⟨b, o, h1, h2⟩
  · exact .inl h
  · by_cases he : xs = []
    · exact .inl he
    · have h0 := h2 0 (List.length_pos_iff.2 he)
      have := lt_of_cell h0
      exact .inr ⟨b, o, h1, by simp at this; omega, h2⟩
end Go.Proofs.YtplbofhgmflnlaaGreat
end
section
/-
  Base words: maps, their entries taken and stored, deletion, and ranging.
-/
set_option linter.unusedVariables false
set_option linter.unusedSimpArgs false
namespace Go.Proofs.YtplbofhgmflnlaaGreat
open Go.RowKit Go.Maps Go.MapKept Go.ChangeMaps
abbrev kv (e : MapEntry) : Value × Value := (e.key, e.val)
/-- A map's entries are in order: keys and stamps apart. -/
structure Fits (k : TypeId) (es : Array MapEntry) (clock : Nat) (m : List (Value × Value)) : Prop where
  kvs : es.toList.map kv = m
  keys : ∀ e ∈ es.toList, ∃ l, keyOf Tryz.prog k e.key = some l
  nodup : (m.map Prod.fst).Nodup
  len : m.length < maxLen
  born : (es.toList.map (·.born)).Nodup
  old : ∀ e ∈ es.toList, e.born < clock
/-- Block b is a map with just these entries. -/
def MapAt (k : TypeId) (w : World) (b : Nat) (m : List (Value × Value)) : Prop :=
  ∃ (es : Array MapEntry) (clock : Nat), w.heap[b]? = some (.map es clock) ∧ Fits k es clock m
theorem MapAt.of_block {k : TypeId} {w w' : World} {b : Nat} {m : List (Value × Value)} (h : MapAt k w b m) (e : w'.heap[b]? = w.heap[b]?) : MapAt k w' b m := by
  obtain ⟨es, clock, h1, r⟩ := h
  exact ⟨es, clock, e.trans h1, r⟩
theorem MapAt.ext {k : TypeId} {w w' : World} {b : Nat} {m : List (Value × Value)} (h : MapAt k w b m) (e : Ext w w') : MapAt k w' b m := by
  obtain ⟨es, clock, h1, r⟩ := h
  exact ⟨es, clock, e.block h1, r⟩
theorem MapAt.lt {k : TypeId} {w : World} {b : Nat} {m : List (Value × Value)} (h : MapAt k w b m) : b < w.heap.size := by
  obtain ⟨es, clock, h1, r⟩ := h
  exact lt_of_block h1
theorem MapAt.nodup {k : TypeId} {w : World} {b : Nat} {m : List (Value × Value)} (h : MapAt k w b m) : (m.map Prod.fst).Nodup := by
  obtain ⟨es, clock, h1, r⟩ := h
  exact r.nodup
theorem MapAt.len_lt {k : TypeId} {w : World} {b : Nat} {m : List (Value × Value)} (h : MapAt k w b m) : m.length < maxLen := by
  obtain ⟨es, clock, h1, r⟩ := h
  exact r.len
theorem MapAt.made (k : TypeId) (w : World) : MapAt k (w.alloc (.map #[] 0)) w.heap.size [] := ⟨#[], 0, heap_new w _, rfl, by simp, by simp, by simp [maxLen], by simp, by simp⟩
section
variable {k t e : TypeId} {w : World} {b : Nat} {m : List (Value × Value)} {z : Value}
theorem MapAt.look_yes (h : MapAt k w b m) (K : Keyed Tryz.prog k) (ht : Tryz.prog.underlying t = some (.map k e)) {key v : Value} (hk : ∃ l, keyOf Tryz.prog k key = some l) (hm : (key, v) ∈ m) :
    ∀ c, (Instr.lookup t (.map (some b)) key c).run Tryz.prog w = .ok (if c then .tuple #[v, .bool true] else v) w := by
  intro c
  obtain ⟨es, clock, hb, hes, hkeys, hnd, _, _, _⟩ := h
  obtain ⟨l, hk⟩ := hk
  rcases K.find w hk es.toList hkeys with ⟨h1, h2⟩ | ⟨j, e0, h1, h2, h3⟩
  · rw [← hes, List.mem_map] at hm
    obtain ⟨x, hx, hxe⟩ := hm
    exact absurd (congrArg Prod.fst hxe) (h2 x hx)
  · have hv : e0.val = v := by
      have hj : m[j]? = some (e0.key, e0.val) := by rw [← hes, List.getElem?_map, h2]; rfl
      obtain ⟨i, hi, hie⟩ := List.getElem_of_mem hm
      have hjl : j < m.length := (List.getElem?_eq_some_iff.1 hj).1
      have hje : m[j] = (e0.key, e0.val) := (List.getElem?_eq_some_iff.1 hj).2
      have hij : i = j := by
        refine (List.getElem_inj (h₀ := by simpa using hi) (h₁ := by simpa using hjl) hnd).1 ?_
        simp [hie, hje, h3]
      subst hij
      rw [hie] at hje
      exact (congrArg Prod.snd hje).symm
    simp [Instr.lookup, run_underlying ht, MapKept.run_getObj_map hb, K.check w _ hk, h1, Result.andThen, hv]
theorem MapAt.look_no (h : MapAt k w b m) (K : Keyed Tryz.prog k) (ht : Tryz.prog.underlying t = some (.map k e)) (hz : (zeroValue e).run Tryz.prog w = .ok z w) {key : Value} (hk : ∃ l, keyOf Tryz.prog k key = some l) (hm : ∀ p ∈ m, p.1 ≠ key) :
    ∀ c, (Instr.lookup t (.map (some b)) key c).run Tryz.prog w = .ok (if c then .tuple #[z, .bool false] else z) w := by
  intro c
  obtain ⟨es, clock, hb, hes, hkeys, hnd, _, _, _⟩ := h
  obtain ⟨l, hk⟩ := hk
  rcases K.find w hk es.toList hkeys with ⟨h1, h2⟩ | ⟨j, e0, h1, h2, h3⟩
  · simp [Instr.lookup, run_underlying ht, MapKept.run_getObj_map hb, K.check w _ hk, h1, hz, Result.andThen]
  · exact absurd h3 (hm (e0.key, e0.val) (by rw [← hes]; exact List.mem_map.2 ⟨e0, List.mem_of_getElem? h2, rfl⟩))
theorem MapAt.len (h : MapAt k w b m) (ht : Tryz.prog.underlying t = some (.map k e)) (ty : TypeId) : (Builtin.len_ #[t] ty #[.map (some b)]).run Tryz.prog w = .ok (.int .i64 (m.length : Int)) w := by
  obtain ⟨es, clock, hb, hes, hkeys, hnd, _, _, _⟩ := h
  have : es.size = m.length := by rw [← hes]; simp
  simp [Builtin.len_, run_underlying ht, MapKept.run_getObj_map hb, goInt, Result.andThen, this]
/-- What a store into a map leaves. -/
structure Turned (w w' : World) (b : Nat) : Prop where
  os : w'.os = w.os
  tape : w'.tape = w.tape
  output : w'.output = w.output
  size : w'.heap.size = w.heap.size
  block : ∀ i, i ≠ b → w'.heap[i]? = w.heap[i]?
theorem turned_set (w : World) (b : Nat) (o : Obj) : Turned w (setBlock w b o) b :=
  ⟨rfl, rfl, rfl, by simp [setBlock], fun i hi => heap_setBlock_other' i hi⟩
where
  heap_setBlock_other' (i : Nat) (hi : i ≠ b) : (setBlock w b o).heap[i]? = w.heap[i]? := by
    simp [setBlock, Array.getElem?_setIfInBounds, Ne.symm hi]
theorem Fits.push {es : Array MapEntry} {clock : Nat} (h : Fits k es clock m) {key val : Value} (hk : ∃ l, keyOf Tryz.prog k key = some l) (hm : ∀ p ∈ m, p.1 ≠ key) (hl : m.length + 1 < maxLen) : Fits k (es.push ⟨key, val, clock⟩) (clock + 1) (m ++ [(key, val)]) := by
  refine ⟨by simp [h.kvs], ?_, ?_, by simp; omega, ?_, ?_⟩
  · intro x hx
    simp only [Array.toList_push, List.mem_append, List.mem_singleton] at hx
    rcases hx with hx | rfl
    · exact h.keys x hx
    · exact hk
  · rw [List.map_append, List.nodup_append]
    refine ⟨h.nodup, by simp, ?_⟩
    intro a ha c hc
    simp at hc
    subst hc
    obtain ⟨p, hp, rfl⟩ := List.mem_map.1 ha
    exact hm p hp
  · rw [Array.toList_push, List.map_append, List.nodup_append]
    refine ⟨h.born, by simp, ?_⟩
    intro a ha c hc
    simp at hc
    subst hc
    obtain ⟨p, hp, rfl⟩ := List.mem_map.1 ha
    exact Nat.ne_of_lt (h.old p hp)
  · intro x hx
    simp only [Array.toList_push, List.mem_append, List.mem_singleton] at hx
    rcases hx with hx | rfl
    · exact Nat.lt_succ_of_lt (h.old x hx)
    · exact Nat.lt_succ_self _
theorem Fits.modify {es : Array MapEntry} {clock : Nat} (h : Fits k es clock m) {j : Nat} {e0 : MapEntry} (hj : es.toList[j]? = some e0) (val : Value) : Fits k (es.modify j fun e' => { e' with key := e0.key, val := val }) clock (m.set j (e0.key, val)) := by
  have hlist : (es.modify j (fun e' => { e' with key := e0.key, val := val })).toList = es.toList.set j { e0 with key := e0.key, val := val } := by rw [Array.toList_modify, modify_eq_set _ _ _ _ hj]
  have hjm : m[j]? = some (e0.key, e0.val) := by rw [← h.kvs, List.getElem?_map, hj]; rfl
  refine ⟨by rw [hlist, List.map_set, h.kvs], ?_, ?_, by simpa using h.len, ?_, ?_⟩
  · intro x hx
    rw [hlist] at hx
    rcases List.mem_or_eq_of_mem_set hx with hx | rfl
    · exact h.keys x hx
    · exact h.keys e0 (List.mem_of_getElem? hj)
  · rw [List.map_set]
    have : (m.map Prod.fst).set j e0.key = m.map Prod.fst := by
      apply List.ext_getElem
      · simp
      · intro n h1 h2
        rw [List.getElem_set]
        split
        · rename_i hn; subst hn; simp [(List.getElem?_eq_some_iff.1 hjm).2]
        · rfl
    rw [this]; exact h.nodup
  · rw [hlist, List.map_set]
    have : (es.toList.map (·.born)).set j e0.born = es.toList.map (·.born) := by
      apply List.ext_getElem
      · simp
      · intro n h1 h2
        rw [List.getElem_set]
        split
        · rename_i hn; subst hn; simp only [List.getElem_map]; rw [(List.getElem?_eq_some_iff.1 hj).2]
        · rfl
    show ((es.toList.map (·.born)).set j e0.born).Nodup
    rw [this]; exact h.born
  · intro x hx
    rw [hlist] at hx
    rcases List.mem_or_eq_of_mem_set hx with hx | rfl
    · exact h.old x hx
    · exact h.old e0 (List.mem_of_getElem? hj)
theorem MapAt.store_new (h : MapAt k w b m) (K : Keyed Tryz.prog k) (ht : Tryz.prog.underlying t = some (.map k e)) {key val : Value} (hk : ∃ l, keyOf Tryz.prog k key = some l) (hm : ∀ p ∈ m, p.1 ≠ key) (hl : m.length + 1 < maxLen) :
    ∃ w', (Instr.mapUpdate t (.map (some b)) key val).run Tryz.prog w = .ok () w' ∧ MapAt k w' b (m ++ [(key, val)]) ∧ Turned w w' b := by
  obtain ⟨es, clock, hb, hf⟩ := h
  obtain ⟨l, hk'⟩ := hk
  rcases K.find w hk' es.toList hf.keys with ⟨h1, h2⟩ | ⟨j, e0, h1, h2, h3⟩
  · refine ⟨setBlock w b (.map (es.push ⟨key, val, clock⟩) (clock + 1)), ?_, ⟨es.push ⟨key, val, clock⟩, clock + 1, heap_setBlock_same hb _, hf.push ⟨l, hk'⟩ hm hl⟩, turned_set _ _ _⟩
    simp [Instr.mapUpdate, run_underlying ht, MapKept.run_getObj_map hb, K.check w false hk', h1, MapKept.run_setObj_map _ hb, Result.andThen, setBlock]
  · exact absurd h3 (hm (e0.key, e0.val) (by rw [← hf.kvs]; exact List.mem_map.2 ⟨e0, List.mem_of_getElem? h2, rfl⟩))
theorem Fits.at_key {es : Array MapEntry} {clock : Nat} (h : Fits k es clock m) {key v0 : Value} {j : Nat} (hj : m[j]? = some (key, v0)) {i : Nat} {e0 : MapEntry} (hi : es.toList[i]? = some e0) (hk : e0.key = key) : i = j ∧ e0.val = v0 := by
  have him : m[i]? = some (e0.key, e0.val) := by rw [← h.kvs, List.getElem?_map, hi]; rfl
  have hjl : j < m.length := (List.getElem?_eq_some_iff.1 hj).1
  have hil : i < m.length := (List.getElem?_eq_some_iff.1 him).1
  have hij : i = j := by
    refine (List.getElem_inj (h₀ := by simpa using hil) (h₁ := by simpa using hjl) h.nodup).1 ?_
    simp [(List.getElem?_eq_some_iff.1 him).2, (List.getElem?_eq_some_iff.1 hj).2, hk]
  subst hij
  rw [him] at hj
  simp only [Option.some.injEq, Prod.mk.injEq] at hj
  exact ⟨rfl, hj.2⟩
theorem MapAt.store_old (h : MapAt k w b m) (K : Keyed Tryz.prog k) (ht : Tryz.prog.underlying t = some (.map k e)) {key val v0 : Value} (hk : ∃ l, keyOf Tryz.prog k key = some l) {j : Nat} (hj : m[j]? = some (key, v0)) :
    ∃ w', (Instr.mapUpdate t (.map (some b)) key val).run Tryz.prog w = .ok () w' ∧ MapAt k w' b (m.set j (key, val)) ∧ Turned w w' b := by
  obtain ⟨es, clock, hb, hf⟩ := h
  obtain ⟨l, hk⟩ := hk
  rcases K.find w hk es.toList hf.keys with ⟨h1, h2⟩ | ⟨i, e0, h1, h2, h3⟩
  · have hx : (key, v0) ∈ m := List.mem_of_getElem? hj
    rw [← hf.kvs, List.mem_map] at hx
    obtain ⟨x, hx, hxe⟩ := hx
    exact absurd (congrArg Prod.fst hxe) (h2 x hx)
  · obtain ⟨rfl, -⟩ := hf.at_key hj h2 h3
    have hej : es[i]? = some e0 := by simpa using h2
    subst h3
    refine ⟨setBlock w b (.map (es.modify i (fun e' => { e' with key := e0.key, val := val })) clock), ?_, ⟨_, clock, heap_setBlock_same hb _, hf.modify h2 val⟩, turned_set _ _ _⟩
    simp [Instr.mapUpdate, run_underlying ht, MapKept.run_getObj_map hb, K.check w false hk, h1, hej, K.stays w hk, MapKept.run_setObj_map _ hb, Result.andThen, setBlock]
/-- The j-th entry of the map bears this stamp. -/
def EntAt (k : TypeId) (w : World) (b : Nat) (m : List (Value × Value)) (j : Nat) (st : Nat) : Prop :=
  ∃ (es : Array MapEntry) (clock : Nat), w.heap[b]? = some (.map es clock) ∧ Fits k es clock m ∧ (es.toList[j]?).map (·.born) = some st
theorem EntAt.of_block {w' : World} {j st : Nat} (h : EntAt k w b m j st) (e : w'.heap[b]? = w.heap[b]?) : EntAt k w' b m j st := by
  obtain ⟨es, clock, h1, r⟩ := h
  exact ⟨es, clock, e.trans h1, r⟩
theorem EntAt.map {j st : Nat} (h : EntAt k w b m j st) : MapAt k w b m := by
  obtain ⟨es, clock, h1, h2, -⟩ := h
  exact ⟨es, clock, h1, h2⟩
theorem MapAt.entry_new (h : MapAt k w b m) (K : Keyed Tryz.prog k) (ht : Tryz.prog.underlying t = some (.map k e)) (hz : (zeroValue e).run Tryz.prog w = .ok z w) {key : Value} (hk : ∃ l, keyOf Tryz.prog k key = some l) (hm : ∀ p ∈ m, p.1 ≠ key) (hl : m.length + 1 < maxLen) :
    ∃ st w', (Instr.mapEntry t (.map (some b)) key).run Tryz.prog w = .ok (.tuple #[z, .int .i64 (st : Nat)]) w' ∧ EntAt k w' b (m ++ [(key, z)]) m.length st ∧ Turned w w' b := by
  obtain ⟨es, clock, hb, hf⟩ := h
  obtain ⟨l, hk'⟩ := hk
  rcases K.find w hk' es.toList hf.keys with ⟨h1, h2⟩ | ⟨j, e0, h1, h2, h3⟩
  · have hsz : es.size = m.length := by rw [← hf.kvs]; simp
    refine ⟨clock, setBlock w b (.map (es.push ⟨key, z, clock⟩) (clock + 1)), ?_, ⟨es.push ⟨key, z, clock⟩, clock + 1, heap_setBlock_same hb _, hf.push ⟨l, hk'⟩ hm hl, ?_⟩, turned_set _ _ _⟩
    · simp [Instr.mapEntry, run_underlying ht, MapKept.run_getObj_map hb, K.check w false hk', h1, hz, MapKept.run_setObj_map _ hb, Result.andThen, setBlock, goInt]
    · rw [← hsz]; simp
  · exact absurd h3 (hm (e0.key, e0.val) (by rw [← hf.kvs]; exact List.mem_map.2 ⟨e0, List.mem_of_getElem? h2, rfl⟩))
theorem MapAt.entry_old (h : MapAt k w b m) (K : Keyed Tryz.prog k) (ht : Tryz.prog.underlying t = some (.map k e)) {key v0 : Value} (hk : ∃ l, keyOf Tryz.prog k key = some l) {j : Nat} (hj : m[j]? = some (key, v0)) :
    ∃ st w', (Instr.mapEntry t (.map (some b)) key).run Tryz.prog w = .ok (.tuple #[v0, .int .i64 (st : Nat)]) w' ∧ EntAt k w' b m j st ∧ Turned w w' b := by
  obtain ⟨es, clock, hb, hf⟩ := h
  obtain ⟨l, hk⟩ := hk
  rcases K.find w hk es.toList hf.keys with ⟨h1, h2⟩ | ⟨i, e0, h1, h2, h3⟩
  · have hx : (key, v0) ∈ m := List.mem_of_getElem? hj
    rw [← hf.kvs, List.mem_map] at hx
    obtain ⟨x, hx, hxe⟩ := hx
    exact absurd (congrArg Prod.fst hxe) (h2 x hx)
  · obtain ⟨rfl, rfl⟩ := hf.at_key hj h2 h3
    have hej : es[i]? = some e0 := by simpa using h2
    subst h3
    have hsame : es.modify i (fun e' => { e' with key := e0.key, val := e0.val }) = es.modify i (fun e' => { e' with key := e0.key }) := by
      apply Array.ext'
      rw [Array.toList_modify, Array.toList_modify, modify_eq_set _ _ _ _ h2, modify_eq_set _ _ _ _ h2]
    have hm : m.set i (e0.key, e0.val) = m := by
      apply List.ext_getElem
      · simp
      · intro n h1 h2
        rw [List.getElem_set]
        split
        · rename_i hn; subst hn; exact (List.getElem?_eq_some_iff.1 hj).2.symm
        · rfl
    have hfm := hf.modify h2 e0.val
    rw [hm, hsame] at hfm
    refine ⟨e0.born, setBlock w b (.map (es.modify i (fun e' => { e' with key := e0.key })) clock), ?_, ⟨_, clock, heap_setBlock_same hb _, hfm, ?_⟩, turned_set _ _ _⟩
    · simp [Instr.mapEntry, run_underlying ht, MapKept.run_getObj_map hb, K.check w false hk, h1, hej, K.stays w hk, MapKept.run_setObj_map _ hb, Result.andThen, setBlock, goInt]
    · rw [Array.toList_modify, modify_eq_set _ _ _ _ h2, List.getElem?_set_self (List.getElem?_eq_some_iff.1 h2).1]; rfl
theorem findIdx_born : ∀ (l : List MapEntry) (j : Nat) (e0 : MapEntry), (l.map (·.born)).Nodup → l[j]? = some e0 → l.findIdx? (fun e => (e.born : Int) == (e0.born : Int)) = some j
  | [], _, _, _, h => by simp at h
  | x :: xs, 0, e0, _, h => by
    simp only [List.getElem?_cons_zero, Option.some.injEq] at h
    subst h; simp [List.findIdx?_cons]
  | x :: xs, j + 1, e0, hn, h => by
    simp only [List.getElem?_cons_succ] at h
    have hne : x.born ≠ e0.born := by
      intro e
      simp only [List.map_cons, List.nodup_cons] at hn
      exact hn.1 (by rw [e]; exact List.mem_map.2 ⟨e0, List.mem_of_getElem? h, rfl⟩)
    have hne' : ((x.born : Int) == (e0.born : Int)) = false := by rw [beq_eq_false_iff_ne]; omega
    rw [List.findIdx?_cons, hne']
    simp only [Bool.false_eq_true, if_false]
    rw [findIdx_born xs j e0 (by simp only [List.map_cons, List.nodup_cons] at hn; exact hn.2) h]
    rfl
theorem EntAt.store {j st : Nat} (h : EntAt k w b m j st) {key v0 : Value} (hj : m[j]? = some (key, v0)) (val : Value) :
    ∃ w', (Instr.entryStore t (.map (some b)) (.int .i64 (st : Nat)) val).run Tryz.prog w = .ok () w' ∧ MapAt k w' b (m.set j (key, val)) ∧ Turned w w' b := by
  obtain ⟨es, clock, hb, hf, hst⟩ := h
  cases he : es.toList[j]? with
  | none => rw [he] at hst; cases hst
  | some e0 =>
    rw [he] at hst
    simp only [Option.map_some, Option.some.injEq] at hst
    subst hst
    have hjm : m[j]? = some (e0.key, e0.val) := by rw [← hf.kvs, List.getElem?_map, he]; rfl
    rw [hjm] at hj
    simp only [Option.some.injEq, Prod.mk.injEq] at hj
    obtain ⟨rfl, rfl⟩ := hj
    have hidx : es.findIdx? (fun e => (e.born : Int) == (e0.born : Int)) = some j := by
      have h1 := findIdx_born _ _ _ hf.born he
      rcases es with ⟨l⟩
      rw [List.findIdx?_toArray]; exact h1
    have hsame : es.modify j (fun e' => { e' with key := e0.key, val := val }) = es.modify j (fun e' => { e' with val := val }) := by
      apply Array.ext'
      rw [Array.toList_modify, Array.toList_modify, modify_eq_set _ _ _ _ he, modify_eq_set _ _ _ _ he]
    have hfm := hf.modify he val
    rw [hsame] at hfm
    refine ⟨setBlock w b (.map (es.modify j (fun e' => { e' with val := val })) clock), ?_, ⟨_, clock, heap_setBlock_same hb _, hfm⟩, turned_set _ _ _⟩
    simp [Instr.entryStore, MapKept.run_getObj_map hb, asInt, asIntOf, hidx, MapKept.run_setObj_map _ hb, Result.andThen, setBlock]
end
/-- The world behind a store into a map. -/
noncomputable def mapW (t : TypeId) (W : World) (b : Nat) (k v : Value) : World := match (Instr.mapUpdate t (.map (some b)) k v).run Tryz.prog W with | .ok _ w' => w' | .halt _ w' => w'
theorem run_mapW {t : TypeId} {W : World} {b : Nat} {k v : Value} {R : World → Prop} (h : ∃ w', (Instr.mapUpdate t (.map (some b)) k v).run Tryz.prog W = .ok () w' ∧ R w') :
    (Instr.mapUpdate t (.map (some b)) k v).run Tryz.prog W = .ok () (mapW t W b k v) ∧ R (mapW t W b k v) := by
  obtain ⟨w', h1, h2⟩ := h
  have : mapW t W b k v = w' := by unfold mapW; rw [h1]
  rw [this]; exact ⟨h1, h2⟩
theorem ExtX.alloc {X : Nat} {w W : World} (h : ExtX X w W) (o : Obj) : ExtX X w (W.alloc o) := h.trans (((Ext.refl W).alloc o).x)
theorem ExtX.drew {X : Nat} {w W : World} (h : ExtX X w W) : ExtX X w W.drew := h.trans (((Ext.refl W).drew).x)
theorem ExtX.turned {X : Nat} {w W W' : World} (h : ExtX X w W) (k : Turned W W' X) : ExtX X w W' := h.trans ⟨k.os, k.tape, k.output, Nat.le_of_eq k.size.symm, fun i _ q => k.block i q⟩
theorem Ext.turned {w W W' : World} {b : Nat} (h : Ext w W) (k : Turned W W' b) (hb : w.heap.size ≤ b) : Ext w W' :=
  ⟨k.os.trans h.os, k.tape.trans h.tape, k.output.trans h.output, by rw [k.size]; exact h.size, fun i hi => (k.block i (by omega)).trans (Below.block h i hi)⟩
attribute [go_sem] ExtX.refl ExtX.alloc ExtX.drew
/-- An operation that is run by an equation: the law for a walk's list. -/
theorem wpList_entry {P : Program} {ops : Array Oper} {rest : List Oper} {o : Oper} {a : Act} {Q : Exit → Act → World → Prop} (w : World) (hgd : o.guard = none) (x y : Operand) (t : TypeId)
    (ho : o.op = .mapEntry t x y) (R : Value → World → Prop) (hrun : ∃ v' w', (Instr.mapEntry t (a.eval x) (a.eval y)).run P w = .ok v' w' ∧ R v' w')
    (h : ∀ v' w', R v' w' → wpList P ops Q rest (a.put o.dst v') w') : wpList P ops Q (o :: rest) a w := by
  obtain ⟨v', w', hr, hR⟩ := hrun
  refine wpList_plain hgd fun K hK => ?_
  unfold Oper.wp execOp
  simp only [ho, Sem.run_bind, Sem.run_pure, hr, Result.andThen_ok]
  exact hK _ _ (h v' w' hR)
theorem wpList_entryStore {P : Program} {ops : Array Oper} {rest : List Oper} {o : Oper} {a : Act} {Q : Exit → Act → World → Prop} (w : World) (hgd : o.guard = none) (x y z : Operand) (t : TypeId)
    (ho : o.op = .entryStore t x y z) (R : World → Prop) (hrun : ∃ w', (Instr.entryStore t (a.eval x) (a.eval y) (a.eval z)).run P w = .ok () w' ∧ R w')
    (h : ∀ w', R w' → wpList P ops Q rest (a.put o.dst undef) w') : wpList P ops Q (o :: rest) a w := by
  obtain ⟨w', hr, hR⟩ := hrun
  refine wpList_plain hgd fun K hK => ?_
  unfold Oper.wp execOp
  simp only [ho, Sem.run_bind, Sem.run_pure, hr, Result.andThen_ok]
  exact hK _ _ (h w' hR)
end Go.Proofs.YtplbofhgmflnlaaGreat
end
