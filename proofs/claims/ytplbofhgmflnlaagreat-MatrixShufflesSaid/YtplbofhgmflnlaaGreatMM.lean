/-
  Base words: maps, their entries taken and stored, deletion, and ranging.
-/
import Derived.Test.YtplbofhgmflnlaaGreatMC
import Derived.Maps.OwnSet
import Derived.Maps.RangeWalk
import Derived.DeepKeys4
set_option linter.unusedVariables false
set_option linter.unusedSimpArgs false
namespace Go.Proofs.YtplbofhgmflnlaaGreat
open Go.RowKit Go.Maps Go.MapKept Go.ChangeMaps
abbrev kv (e : MapEntry) : Value × Value := (e.key, e.val)
/-- A map's entries are in order: keys and stamps apart. -/
structure Fits (k : TypeId) (es : Array MapEntry) (clock : Nat) (m : List (Value × Value)) : Prop where
  kvs : es.toList.map kv = m
  keys : ∀ e ∈ es.toList, ∃ l, keyOf Tryz.prog k e.key = some l
  nodup : (m.map Prod.fst).Nodup
  len : m.length < maxLen
  born : (es.toList.map (·.born)).Nodup
  old : ∀ e ∈ es.toList, e.born < clock
/-- Block b is a map with just these entries. -/
def MapAt (k : TypeId) (w : World) (b : Nat) (m : List (Value × Value)) : Prop :=
  ∃ (es : Array MapEntry) (clock : Nat), w.heap[b]? = some (.map es clock) ∧ Fits k es clock m
theorem MapAt.of_block {k : TypeId} {w w' : World} {b : Nat} {m : List (Value × Value)} (h : MapAt k w b m) (e : w'.heap[b]? = w.heap[b]?) : MapAt k w' b m := by
  obtain ⟨es, clock, h1, r⟩ := h
  exact ⟨es, clock, e.trans h1, r⟩
theorem MapAt.ext {k : TypeId} {w w' : World} {b : Nat} {m : List (Value × Value)} (h : MapAt k w b m) (e : Ext w w') : MapAt k w' b m := by
  obtain ⟨es, clock, h1, r⟩ := h
  exact ⟨es, clock, e.block h1, r⟩
theorem MapAt.lt {k : TypeId} {w : World} {b : Nat} {m : List (Value × Value)} (h : MapAt k w b m) : b < w.heap.size := by
  obtain ⟨es, clock, h1, r⟩ := h
  exact lt_of_block h1
theorem MapAt.nodup {k : TypeId} {w : World} {b : Nat} {m : List (Value × Value)} (h : MapAt k w b m) : (m.map Prod.fst).Nodup := by
  obtain ⟨es, clock, h1, r⟩ := h
  exact r.nodup
theorem MapAt.len_lt {k : TypeId} {w : World} {b : Nat} {m : List (Value × Value)} (h : MapAt k w b m) : m.length < maxLen := by
  obtain ⟨es, clock, h1, r⟩ := h
  exact r.len
theorem MapAt.made (k : TypeId) (w : World) : MapAt k (w.alloc (.map #[] 0)) w.heap.size [] := ⟨#[], 0, heap_new w _, rfl, by simp, by simp, by simp [maxLen], by simp, by simp⟩
section
variable {k t e : TypeId} {w : World} {b : Nat} {m : List (Value × Value)} {z : Value}
theorem MapAt.look_yes (h : MapAt k w b m) (K : Keyed Tryz.prog k) (ht : Tryz.prog.underlying t = some (.map k e)) {key v : Value} (hk : ∃ l, keyOf Tryz.prog k key = some l) (hm : (key, v) ∈ m) :
    ∀ c, (Instr.lookup t (.map (some b)) key c).run Tryz.prog w = .ok (if c then .tuple #[v, .bool true] else v) w := by
  intro c
  obtain ⟨es, clock, hb, hes, hkeys, hnd, _, _, _⟩ := h
  obtain ⟨l, hk⟩ := hk
  rcases K.find w hk es.toList hkeys with ⟨h1, h2⟩ | ⟨j, e0, h1, h2, h3⟩
  · rw [← hes, List.mem_map] at hm
    obtain ⟨x, hx, hxe⟩ := hm
    exact absurd (congrArg Prod.fst hxe) (h2 x hx)
  · have hv : e0.val = v := by
      have hj : m[j]? = some (e0.key, e0.val) := by rw [← hes, List.getElem?_map, h2]; rfl
      obtain ⟨i, hi, hie⟩ := List.getElem_of_mem hm
      have hjl : j < m.length := (List.getElem?_eq_some_iff.1 hj).1
      have hje : m[j] = (e0.key, e0.val) := (List.getElem?_eq_some_iff.1 hj).2
      have hij : i = j := by
        refine (List.getElem_inj (h₀ := by simpa using hi) (h₁ := by simpa using hjl) hnd).1 ?_
        simp [hie, hje, h3]
      subst hij
      rw [hie] at hje
      exact (congrArg Prod.snd hje).symm
    simp [Instr.lookup, run_underlying ht, MapKept.run_getObj_map hb, K.check w _ hk, h1, Result.andThen, hv]
theorem MapAt.look_no (h : MapAt k w b m) (K : Keyed Tryz.prog k) (ht : Tryz.prog.underlying t = some (.map k e)) (hz : (zeroValue e).run Tryz.prog w = .ok z w) {key : Value} (hk : ∃ l, keyOf Tryz.prog k key = some l) (hm : ∀ p ∈ m, p.1 ≠ key) :
    ∀ c, (Instr.lookup t (.map (some b)) key c).run Tryz.prog w = .ok (if c then .tuple #[z, .bool false] else z) w := by
  intro c
  obtain ⟨es, clock, hb, hes, hkeys, hnd, _, _, _⟩ := h
  obtain ⟨l, hk⟩ := hk
  rcases K.find w hk es.toList hkeys with ⟨h1, h2⟩ | ⟨j, e0, h1, h2, h3⟩
  · simp [Instr.lookup, run_underlying ht, MapKept.run_getObj_map hb, K.check w _ hk, h1, hz, Result.andThen]
  · exact absurd h3 (hm (e0.key, e0.val) (by rw [← hes]; exact List.mem_map.2 ⟨e0, List.mem_of_getElem? h2, rfl⟩))
theorem MapAt.len (h : MapAt k w b m) (ht : Tryz.prog.underlying t = some (.map k e)) (ty : TypeId) : (Builtin.len_ #[t] ty #[.map (some b)]).run Tryz.prog w = .ok (.int .i64 (m.length : Int)) w := by
  obtain ⟨es, clock, hb, hes, hkeys, hnd, _, _, _⟩ := h
  have : es.size = m.length := by rw [← hes]; simp
  simp [Builtin.len_, run_underlying ht, MapKept.run_getObj_map hb, goInt, Result.andThen, this]
/-- What a store into a map leaves. -/
structure Turned (w w' : World) (b : Nat) : Prop where
  os : w'.os = w.os
  tape : w'.tape = w.tape
  output : w'.output = w.output
  size : w'.heap.size = w.heap.size
  block : ∀ i, i ≠ b → w'.heap[i]? = w.heap[i]?
theorem turned_set (w : World) (b : Nat) (o : Obj) : Turned w (setBlock w b o) b :=
  ⟨rfl, rfl, rfl, by simp [setBlock], fun i hi => heap_setBlock_other' i hi⟩
where
  heap_setBlock_other' (i : Nat) (hi : i ≠ b) : (setBlock w b o).heap[i]? = w.heap[i]? := by
    simp [setBlock, Array.getElem?_setIfInBounds, Ne.symm hi]
theorem Fits.push {es : Array MapEntry} {clock : Nat} (h : Fits k es clock m) {key val : Value} (hk : ∃ l, keyOf Tryz.prog k key = some l) (hm : ∀ p ∈ m, p.1 ≠ key) (hl : m.length + 1 < maxLen) : Fits k (es.push ⟨key, val, clock⟩) (clock + 1) (m ++ [(key, val)]) := by
  refine ⟨by simp [h.kvs], ?_, ?_, by simp; omega, ?_, ?_⟩
  · intro x hx
    simp only [Array.toList_push, List.mem_append, List.mem_singleton] at hx
    rcases hx with hx | rfl
    · exact h.keys x hx
    · exact hk
  · rw [List.map_append, List.nodup_append]
    refine ⟨h.nodup, by simp, ?_⟩
    intro a ha c hc
    simp at hc
    subst hc
    obtain ⟨p, hp, rfl⟩ := List.mem_map.1 ha
    exact hm p hp
  · rw [Array.toList_push, List.map_append, List.nodup_append]
    refine ⟨h.born, by simp, ?_⟩
    intro a ha c hc
    simp at hc
    subst hc
    obtain ⟨p, hp, rfl⟩ := List.mem_map.1 ha
    exact Nat.ne_of_lt (h.old p hp)
  · intro x hx
    simp only [Array.toList_push, List.mem_append, List.mem_singleton] at hx
    rcases hx with hx | rfl
    · exact Nat.lt_succ_of_lt (h.old x hx)
    · exact Nat.lt_succ_self _
theorem Fits.modify {es : Array MapEntry} {clock : Nat} (h : Fits k es clock m) {j : Nat} {e0 : MapEntry} (hj : es.toList[j]? = some e0) (val : Value) : Fits k (es.modify j fun e' => { e' with key := e0.key, val := val }) clock (m.set j (e0.key, val)) := by
  have hlist : (es.modify j (fun e' => { e' with key := e0.key, val := val })).toList = es.toList.set j { e0 with key := e0.key, val := val } := by rw [Array.toList_modify, modify_eq_set _ _ _ _ hj]
  have hjm : m[j]? = some (e0.key, e0.val) := by rw [← h.kvs, List.getElem?_map, hj]; rfl
  refine ⟨by rw [hlist, List.map_set, h.kvs], ?_, ?_, by simpa using h.len, ?_, ?_⟩
  · intro x hx
    rw [hlist] at hx
    rcases List.mem_or_eq_of_mem_set hx with hx | rfl
    · exact h.keys x hx
    · exact h.keys e0 (List.mem_of_getElem? hj)
  · rw [List.map_set]
    have : (m.map Prod.fst).set j e0.key = m.map Prod.fst := by
      apply List.ext_getElem
      · simp
      · intro n h1 h2
        rw [List.getElem_set]
        split
        · rename_i hn; subst hn; simp [(List.getElem?_eq_some_iff.1 hjm).2]
        · rfl
    rw [this]; exact h.nodup
  · rw [hlist, List.map_set]
    have : (es.toList.map (·.born)).set j e0.born = es.toList.map (·.born) := by
      apply List.ext_getElem
      · simp
      · intro n h1 h2
        rw [List.getElem_set]
        split
        · rename_i hn; subst hn; simp only [List.getElem_map]; rw [(List.getElem?_eq_some_iff.1 hj).2]
        · rfl
    show ((es.toList.map (·.born)).set j e0.born).Nodup
    rw [this]; exact h.born
  · intro x hx
    rw [hlist] at hx
    rcases List.mem_or_eq_of_mem_set hx with hx | rfl
    · exact h.old x hx
    · exact h.old e0 (List.mem_of_getElem? hj)
theorem MapAt.store_new (h : MapAt k w b m) (K : Keyed Tryz.prog k) (ht : Tryz.prog.underlying t = some (.map k e)) {key val : Value} (hk : ∃ l, keyOf Tryz.prog k key = some l) (hm : ∀ p ∈ m, p.1 ≠ key) (hl : m.length + 1 < maxLen) :
    ∃ w', (Instr.mapUpdate t (.map (some b)) key val).run Tryz.prog w = .ok () w' ∧ MapAt k w' b (m ++ [(key, val)]) ∧ Turned w w' b := by
  obtain ⟨es, clock, hb, hf⟩ := h
  obtain ⟨l, hk'⟩ := hk
  rcases K.find w hk' es.toList hf.keys with ⟨h1, h2⟩ | ⟨j, e0, h1, h2, h3⟩
  · refine ⟨setBlock w b (.map (es.push ⟨key, val, clock⟩) (clock + 1)), ?_, ⟨es.push ⟨key, val, clock⟩, clock + 1, heap_setBlock_same hb _, hf.push ⟨l, hk'⟩ hm hl⟩, turned_set _ _ _⟩
    simp [Instr.mapUpdate, run_underlying ht, MapKept.run_getObj_map hb, K.check w false hk', h1, MapKept.run_setObj_map _ hb, Result.andThen, setBlock]
  · exact absurd h3 (hm (e0.key, e0.val) (by rw [← hf.kvs]; exact List.mem_map.2 ⟨e0, List.mem_of_getElem? h2, rfl⟩))
theorem Fits.at_key {es : Array MapEntry} {clock : Nat} (h : Fits k es clock m) {key v0 : Value} {j : Nat} (hj : m[j]? = some (key, v0)) {i : Nat} {e0 : MapEntry} (hi : es.toList[i]? = some e0) (hk : e0.key = key) : i = j ∧ e0.val = v0 := by
  have him : m[i]? = some (e0.key, e0.val) := by rw [← h.kvs, List.getElem?_map, hi]; rfl
  have hjl : j < m.length := (List.getElem?_eq_some_iff.1 hj).1
  have hil : i < m.length := (List.getElem?_eq_some_iff.1 him).1
  have hij : i = j := by
    refine (List.getElem_inj (h₀ := by simpa using hil) (h₁ := by simpa using hjl) h.nodup).1 ?_
    simp [(List.getElem?_eq_some_iff.1 him).2, (List.getElem?_eq_some_iff.1 hj).2, hk]
  subst hij
  rw [him] at hj
  simp only [Option.some.injEq, Prod.mk.injEq] at hj
  exact ⟨rfl, hj.2⟩
theorem MapAt.store_old (h : MapAt k w b m) (K : Keyed Tryz.prog k) (ht : Tryz.prog.underlying t = some (.map k e)) {key val v0 : Value} (hk : ∃ l, keyOf Tryz.prog k key = some l) {j : Nat} (hj : m[j]? = some (key, v0)) :
    ∃ w', (Instr.mapUpdate t (.map (some b)) key val).run Tryz.prog w = .ok () w' ∧ MapAt k w' b (m.set j (key, val)) ∧ Turned w w' b := by
  obtain ⟨es, clock, hb, hf⟩ := h
  obtain ⟨l, hk⟩ := hk
  rcases K.find w hk es.toList hf.keys with ⟨h1, h2⟩ | ⟨i, e0, h1, h2, h3⟩
  · have hx : (key, v0) ∈ m := List.mem_of_getElem? hj
    rw [← hf.kvs, List.mem_map] at hx
    obtain ⟨x, hx, hxe⟩ := hx
    exact absurd (congrArg Prod.fst hxe) (h2 x hx)
  · obtain ⟨rfl, -⟩ := hf.at_key hj h2 h3
    have hej : es[i]? = some e0 := by simpa using h2
    subst h3
    refine ⟨setBlock w b (.map (es.modify i (fun e' => { e' with key := e0.key, val := val })) clock), ?_, ⟨_, clock, heap_setBlock_same hb _, hf.modify h2 val⟩, turned_set _ _ _⟩
    simp [Instr.mapUpdate, run_underlying ht, MapKept.run_getObj_map hb, K.check w false hk, h1, hej, K.stays w hk, MapKept.run_setObj_map _ hb, Result.andThen, setBlock]
/-- The j-th entry of the map bears this stamp. -/
def EntAt (k : TypeId) (w : World) (b : Nat) (m : List (Value × Value)) (j : Nat) (st : Nat) : Prop :=
  ∃ (es : Array MapEntry) (clock : Nat), w.heap[b]? = some (.map es clock) ∧ Fits k es clock m ∧ (es.toList[j]?).map (·.born) = some st
theorem EntAt.of_block {w' : World} {j st : Nat} (h : EntAt k w b m j st) (e : w'.heap[b]? = w.heap[b]?) : EntAt k w' b m j st := by
  obtain ⟨es, clock, h1, r⟩ := h
  exact ⟨es, clock, e.trans h1, r⟩
theorem EntAt.map {j st : Nat} (h : EntAt k w b m j st) : MapAt k w b m := by
  obtain ⟨es, clock, h1, h2, -⟩ := h
  exact ⟨es, clock, h1, h2⟩
theorem MapAt.entry_new (h : MapAt k w b m) (K : Keyed Tryz.prog k) (ht : Tryz.prog.underlying t = some (.map k e)) (hz : (zeroValue e).run Tryz.prog w = .ok z w) {key : Value} (hk : ∃ l, keyOf Tryz.prog k key = some l) (hm : ∀ p ∈ m, p.1 ≠ key) (hl : m.length + 1 < maxLen) :
    ∃ st w', (Instr.mapEntry t (.map (some b)) key).run Tryz.prog w = .ok (.tuple #[z, .int .i64 (st : Nat)]) w' ∧ EntAt k w' b (m ++ [(key, z)]) m.length st ∧ Turned w w' b := by
  obtain ⟨es, clock, hb, hf⟩ := h
  obtain ⟨l, hk'⟩ := hk
  rcases K.find w hk' es.toList hf.keys with ⟨h1, h2⟩ | ⟨j, e0, h1, h2, h3⟩
  · have hsz : es.size = m.length := by rw [← hf.kvs]; simp
    refine ⟨clock, setBlock w b (.map (es.push ⟨key, z, clock⟩) (clock + 1)), ?_, ⟨es.push ⟨key, z, clock⟩, clock + 1, heap_setBlock_same hb _, hf.push ⟨l, hk'⟩ hm hl, ?_⟩, turned_set _ _ _⟩
    · simp [Instr.mapEntry, run_underlying ht, MapKept.run_getObj_map hb, K.check w false hk', h1, hz, MapKept.run_setObj_map _ hb, Result.andThen, setBlock, goInt]
    · rw [← hsz]; simp
  · exact absurd h3 (hm (e0.key, e0.val) (by rw [← hf.kvs]; exact List.mem_map.2 ⟨e0, List.mem_of_getElem? h2, rfl⟩))
theorem MapAt.entry_old (h : MapAt k w b m) (K : Keyed Tryz.prog k) (ht : Tryz.prog.underlying t = some (.map k e)) {key v0 : Value} (hk : ∃ l, keyOf Tryz.prog k key = some l) {j : Nat} (hj : m[j]? = some (key, v0)) :
    ∃ st w', (Instr.mapEntry t (.map (some b)) key).run Tryz.prog w = .ok (.tuple #[v0, .int .i64 (st : Nat)]) w' ∧ EntAt k w' b m j st ∧ Turned w w' b := by
  obtain ⟨es, clock, hb, hf⟩ := h
  obtain ⟨l, hk⟩ := hk
  rcases K.find w hk es.toList hf.keys with ⟨h1, h2⟩ | ⟨i, e0, h1, h2, h3⟩
  · have hx : (key, v0) ∈ m := List.mem_of_getElem? hj
    rw [← hf.kvs, List.mem_map] at hx
    obtain ⟨x, hx, hxe⟩ := hx
    exact absurd (congrArg Prod.fst hxe) (h2 x hx)
  · obtain ⟨rfl, rfl⟩ := hf.at_key hj h2 h3
    have hej : es[i]? = some e0 := by simpa using h2
    subst h3
    have hsame : es.modify i (fun e' => { e' with key := e0.key, val := e0.val }) = es.modify i (fun e' => { e' with key := e0.key }) := by
      apply Array.ext'
      rw [Array.toList_modify, Array.toList_modify, modify_eq_set _ _ _ _ h2, modify_eq_set _ _ _ _ h2]
    have hm : m.set i (e0.key, e0.val) = m := by
      apply List.ext_getElem
      · simp
      · intro n h1 h2
        rw [List.getElem_set]
        split
        · rename_i hn; subst hn; exact (List.getElem?_eq_some_iff.1 hj).2.symm
        · rfl
    have hfm := hf.modify h2 e0.val
    rw [hm, hsame] at hfm
    refine ⟨e0.born, setBlock w b (.map (es.modify i (fun e' => { e' with key := e0.key })) clock), ?_, ⟨_, clock, heap_setBlock_same hb _, hfm, ?_⟩, turned_set _ _ _⟩
    · simp [Instr.mapEntry, run_underlying ht, MapKept.run_getObj_map hb, K.check w false hk, h1, hej, K.stays w hk, MapKept.run_setObj_map _ hb, Result.andThen, setBlock, goInt]
    · rw [Array.toList_modify, modify_eq_set _ _ _ _ h2, List.getElem?_set_self (List.getElem?_eq_some_iff.1 h2).1]; rfl
theorem findIdx_born : ∀ (l : List MapEntry) (j : Nat) (e0 : MapEntry), (l.map (·.born)).Nodup → l[j]? = some e0 → l.findIdx? (fun e => (e.born : Int) == (e0.born : Int)) = some j
  | [], _, _, _, h => by simp at h
  | x :: xs, 0, e0, _, h => by
    simp only [List.getElem?_cons_zero, Option.some.injEq] at h
    subst h; simp [List.findIdx?_cons]
  | x :: xs, j + 1, e0, hn, h => by
    simp only [List.getElem?_cons_succ] at h
    have hne : x.born ≠ e0.born := by
      intro e
      simp only [List.map_cons, List.nodup_cons] at hn
      exact hn.1 (by rw [e]; exact List.mem_map.2 ⟨e0, List.mem_of_getElem? h, rfl⟩)
    have hne' : ((x.born : Int) == (e0.born : Int)) = false := by rw [beq_eq_false_iff_ne]; omega
    rw [List.findIdx?_cons, hne']
    simp only [Bool.false_eq_true, if_false]
    rw [findIdx_born xs j e0 (by simp only [List.map_cons, List.nodup_cons] at hn; exact hn.2) h]
    rfl
theorem EntAt.store {j st : Nat} (h : EntAt k w b m j st) {key v0 : Value} (hj : m[j]? = some (key, v0)) (val : Value) :
    ∃ w', (Instr.entryStore t (.map (some b)) (.int .i64 (st : Nat)) val).run Tryz.prog w = .ok () w' ∧ MapAt k w' b (m.set j (key, val)) ∧ Turned w w' b := by
  obtain ⟨es, clock, hb, hf, hst⟩ := h
  cases he : es.toList[j]? with
  | none => rw [he] at hst; cases hst
  | some e0 =>
    rw [he] at hst
    simp only [Option.map_some, Option.some.injEq] at hst
    subst hst
    have hjm : m[j]? = some (e0.key, e0.val) := by rw [← hf.kvs, List.getElem?_map, he]; rfl
    rw [hjm] at hj
    simp only [Option.some.injEq, Prod.mk.injEq] at hj
    obtain ⟨rfl, rfl⟩ := hj
    have hidx : es.findIdx? (fun e => (e.born : Int) == (e0.born : Int)) = some j := by
      have h1 := findIdx_born _ _ _ hf.born he
      rcases es with ⟨l⟩
      rw [List.findIdx?_toArray]; exact h1
    have hsame : es.modify j (fun e' => { e' with key := e0.key, val := val }) = es.modify j (fun e' => { e' with val := val }) := by
      apply Array.ext'
      rw [Array.toList_modify, Array.toList_modify, modify_eq_set _ _ _ _ he, modify_eq_set _ _ _ _ he]
    have hfm := hf.modify he val
    rw [hsame] at hfm
    refine ⟨setBlock w b (.map (es.modify j (fun e' => { e' with val := val })) clock), ?_, ⟨_, clock, heap_setBlock_same hb _, hfm⟩, turned_set _ _ _⟩
    simp [Instr.entryStore, MapKept.run_getObj_map hb, asInt, asIntOf, hidx, MapKept.run_setObj_map _ hb, Result.andThen, setBlock]
end
/-- The world behind a store into a map. -/
noncomputable def mapW (t : TypeId) (W : World) (b : Nat) (k v : Value) : World := match (Instr.mapUpdate t (.map (some b)) k v).run Tryz.prog W with | .ok _ w' => w' | .halt _ w' => w'
theorem run_mapW {t : TypeId} {W : World} {b : Nat} {k v : Value} {R : World → Prop} (h : ∃ w', (Instr.mapUpdate t (.map (some b)) k v).run Tryz.prog W = .ok () w' ∧ R w') :
    (Instr.mapUpdate t (.map (some b)) k v).run Tryz.prog W = .ok () (mapW t W b k v) ∧ R (mapW t W b k v) := by
  obtain ⟨w', h1, h2⟩ := h
  have : mapW t W b k v = w' := by unfold mapW; rw [h1]
  rw [this]; exact ⟨h1, h2⟩
theorem ExtX.alloc {X : Nat} {w W : World} (h : ExtX X w W) (o : Obj) : ExtX X w (W.alloc o) := h.trans (((Ext.refl W).alloc o).x)
theorem ExtX.drew {X : Nat} {w W : World} (h : ExtX X w W) : ExtX X w W.drew := h.trans (((Ext.refl W).drew).x)
theorem ExtX.turned {X : Nat} {w W W' : World} (h : ExtX X w W) (k : Turned W W' X) : ExtX X w W' := h.trans ⟨k.os, k.tape, k.output, Nat.le_of_eq k.size.symm, fun i _ q => k.block i q⟩
theorem Ext.turned {w W W' : World} {b : Nat} (h : Ext w W) (k : Turned W W' b) (hb : w.heap.size ≤ b) : Ext w W' :=
  ⟨k.os.trans h.os, k.tape.trans h.tape, k.output.trans h.output, by rw [k.size]; exact h.size, fun i hi => (k.block i (by omega)).trans (Below.block h i hi)⟩
attribute [go_sem] ExtX.refl ExtX.alloc ExtX.drew
/-- An operation that is run by an equation: the law for a walk's list. -/
theorem wpList_entry {P : Program} {ops : Array Oper} {rest : List Oper} {o : Oper} {a : Act} {Q : Exit → Act → World → Prop} (w : World) (hgd : o.guard = none) (x y : Operand) (t : TypeId)
    (ho : o.op = .mapEntry t x y) (R : Value → World → Prop) (hrun : ∃ v' w', (Instr.mapEntry t (a.eval x) (a.eval y)).run P w = .ok v' w' ∧ R v' w')
    (h : ∀ v' w', R v' w' → wpList P ops Q rest (a.put o.dst v') w') : wpList P ops Q (o :: rest) a w := by
  obtain ⟨v', w', hr, hR⟩ := hrun
  refine wpList_plain hgd fun K hK => ?_
  unfold Oper.wp execOp
  simp only [ho, Sem.run_bind, Sem.run_pure, hr, Result.andThen_ok]
  exact hK _ _ (h v' w' hR)
theorem wpList_entryStore {P : Program} {ops : Array Oper} {rest : List Oper} {o : Oper} {a : Act} {Q : Exit → Act → World → Prop} (w : World) (hgd : o.guard = none) (x y z : Operand) (t : TypeId)
    (ho : o.op = .entryStore t x y z) (R : World → Prop) (hrun : ∃ w', (Instr.entryStore t (a.eval x) (a.eval y) (a.eval z)).run P w = .ok () w' ∧ R w')
    (h : ∀ w', R w' → wpList P ops Q rest (a.put o.dst undef) w') : wpList P ops Q (o :: rest) a w := by
  obtain ⟨w', hr, hR⟩ := hrun
  refine wpList_plain hgd fun K hK => ?_
  unfold Oper.wp execOp
  simp only [ho, Sem.run_bind, Sem.run_pure, hr, Result.andThen_ok]
  exact hK _ _ (h w' hR)
end Go.Proofs.YtplbofhgmflnlaaGreat
