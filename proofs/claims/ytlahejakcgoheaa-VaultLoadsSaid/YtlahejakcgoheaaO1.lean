/-
  Calls in memory; the arguments of this seat's laws, opened; and a law's row shut: what holds for every law that answers true and leaves all that was there.
  (Two lemmas, 'open_slice_fields' and 'post_of_below', are copied out of the how-to, as it asks.)
-/
import Derived.Test.YtlahejakcgoheaaWB
import Derived.ProofKit
import Derived.Lib.SmallJoins
import Derived.Deep.Slices
import Derived.Deep.Fields
import Derived.ChangeSame
import Derived.Below
import Derived.SizedLaws
import Derived.SliceStrings
set_option linter.unusedVariables false
set_option linter.unusedSimpArgs false
namespace Go.Proofs.Ytlahejakcgoheaa
open Go.ChangeShapes Go.WideShapes Go.ChangeAt Go.RowKit Go.Deep Go.WideElems Go.Joins
/-- A call. -/
structure Op where
  kind : Int
  name : ByteArray
  pass : ByteArray
  label : ByteArray
  other : ByteArray
  text : ByteArray
  day : Int
  num : Int
  ver : Int
def Op.zero : Op := ⟨0, ⟨#[]⟩, ⟨#[]⟩, ⟨#[]⟩, ⟨#[]⟩, ⟨#[]⟩, 0, 0, 0⟩
abbrev opcells (x : Op) : Array Value := #[.int .i64 x.kind, .string x.name, .string x.pass, .string x.label, .string x.other, .string x.text, .int .i64 x.day, .int .i64 x.num, .int .i64 x.ver]
abbrev opval (x : Op) : Value := .agg (opcells x)
/-- What a call's parts are bounded by. -/
structure OpOk (x : Op) : Prop where
  k0 : -9223372036854775808 ≤ x.kind
  k1 : x.kind ≤ 9223372036854775807
  nm : x.name.size ≤ maxLen
  ps : x.pass.size ≤ maxLen
  lb : x.label.size ≤ maxLen
  ot : x.other.size ≤ maxLen
  tx : x.text.size ≤ maxLen
  d0 : -9223372036854775808 ≤ x.day
  d1 : x.day ≤ 9223372036854775807
  n0 : -9223372036854775808 ≤ x.num
  n1 : x.num ≤ 9223372036854775807
  v0 : -9223372036854775808 ≤ x.ver
  v1 : x.ver ≤ 9223372036854775807
/-- The i-th call (a name of its own). -/
def oth (xs : List Op) (i : Nat) : Op := xs.getD i Op.zero
theorem oth_eq (xs : List Op) (i : Nat) (h : i < xs.length) : oth xs i = xs[i] := by simp [oth, h]
/-- A call's cells from a place on. -/
def OpC (w : World) (b o : Nat) (x : Op) : Prop :=
  w.cell? ⟨b, o, none⟩ = some (.int .i64 x.kind) ∧ w.cell? ⟨b, o + 1, none⟩ = some (.string x.name) ∧ w.cell? ⟨b, o + 2, none⟩ = some (.string x.pass) ∧ w.cell? ⟨b, o + 3, none⟩ = some (.string x.label) ∧
  w.cell? ⟨b, o + 4, none⟩ = some (.string x.other) ∧ w.cell? ⟨b, o + 5, none⟩ = some (.string x.text) ∧ w.cell? ⟨b, o + 6, none⟩ = some (.int .i64 x.day) ∧
  w.cell? ⟨b, o + 7, none⟩ = some (.int .i64 x.num) ∧ w.cell? ⟨b, o + 8, none⟩ = some (.int .i64 x.ver)
theorem OpC.ext {w w' : World} {b o : Nat} {x : Op} (h : OpC w b o x) (e : Ext w w') : OpC w' b o x := by
  obtain ⟨c0, c1, c2, c3, c4, c5, c6, c7, c8⟩ := h
  exact ⟨e.cell c0, e.cell c1, e.cell c2, e.cell c3, e.cell c4, e.cell c5, e.cell c6, e.cell c7, e.cell c8⟩
/-- Under this head (nil too) lie these calls. -/
def Ops (w : World) (a : Option Addr) (xs : List Op) : Prop :=
  (xs = [] ∨ ∃ b o, a = some ⟨b, o, none⟩ ∧ ∀ i, i < xs.length → OpC w b (o + i * 9) (oth xs i)) ∧ ∀ i, i < xs.length → OpOk (oth xs i)
theorem Ops.ext {w w' : World} {a : Option Addr} {xs : List Op} (h : Ops w a xs) (e : Ext w w') : Ops w' a xs := by
  refine ⟨?_, h.2⟩
  rcases h.1 with h | ⟨b, o, h1, h2⟩
  · exact .inl h
  · exact .inr ⟨b, o, h1, fun i hi => (h2 i hi).ext e⟩
theorem Ops.at {w : World} {a : Option Addr} {xs : List Op} (h : Ops w a xs) (i : Nat) (hi : i < xs.length) : ∃ b o, a = some ⟨b, o, none⟩ ∧ (∀ W, Ext w W → OpC W b (o + i * 9) (oth xs i)) := by
  rcases h.1 with rfl | ⟨b, o, h1, h2⟩
  · simp at hi
  · exact ⟨b, o, h1, fun W e => (h2 i hi).ext e⟩
/-- The i-th text (a name of its own). -/
def sth (xs : List ByteArray) (i : Nat) : ByteArray := xs.getD i ByteArray.empty
theorem sth_eq (xs : List ByteArray) (i : Nat) (h : i < xs.length) : sth xs i = xs[i] := by simp [sth, h]
/-- Under this head (nil too) lie these texts. -/
def Txts (w : World) (a : Option Addr) (xs : List ByteArray) : Prop :=
  (xs = [] ∨ ∃ b o, a = some ⟨b, o, none⟩ ∧ ∀ i, i < xs.length → w.cell? ⟨b, o + i, none⟩ = some (.string (sth xs i))) ∧ ∀ i, i < xs.length → (sth xs i).size ≤ maxLen
theorem Txts.ext {w w' : World} {a : Option Addr} {xs : List ByteArray} (h : Txts w a xs) (e : Ext w w') : Txts w' a xs := by
  refine ⟨?_, h.2⟩
  rcases h.1 with h | ⟨b, o, h1, h2⟩
  · exact .inl h
  · exact .inr ⟨b, o, h1, fun i hi => e.cell (h2 i hi)⟩
theorem Txts.at {w : World} {a : Option Addr} {xs : List ByteArray} (h : Txts w a xs) (i : Nat) (hi : i < xs.length) : ∃ b o, a = some ⟨b, o, none⟩ ∧ ∀ W, Ext w W → W.cell? ⟨b, o + i, none⟩ = some (.string (sth xs i)) := by
  rcases h.1 with rfl | ⟨b, o, h1, h2⟩
  · simp at hi
  · exact ⟨b, o, h1, fun W e => e.cell (h2 i hi)⟩
section
variable {H : Type} {enc : TypeId × Value → H} {P : Program} {w : World} {base : Nat} {spare : Nat → Bool} {held : Bool}
theorem open_slice_fields {t e : TypeId} {fs : Array Field} {fuel : Nat} {cs : List Value} {x : DataW H × List MemPlace} (ht : P.underlying t = some (.slice e)) (he : P.underlying e = some (.struct fs))
    (hone : oneCellFields P fs = true) (hC : P.cellsOf e = fs.size) (h : DataW.trod enc P w base spare held fuel t cs = some x) :
    (cs = [.slice none 0 0] ∧ x = (.nil, [])) ∨
    ∃ (a : Addr) (len cap m : Nat) (D : Nat → DataW H) (Pl : Nat → List MemPlace), cs = [.slice (some a) len cap] ∧ base ≤ a.block ∧ len ≤ cap ∧ cap ≤ maxLen ∧ m = (if spare a.block then cap else len) ∧
      x = (.slice ((List.range len).map D) ((List.range (m - len)).map fun j => D (len + j)), MemPlace.row a (m * fs.size) ++ (List.range m).flatMap Pl) ∧
      ∀ i, i < m → ∃ (ys : List (DataW H × List MemPlace)) (n : Nat), D i = .agg (ys.map (·.1)) ∧ Pl i = ys.flatMap (·.2) ∧ ys.length = fs.size ∧
        ∀ (j : Nat) (f : Field), fs[j]? = some f → ∃ (v : Value) (y : DataW H × List MemPlace), w.cell? (a.add (i * fs.size + j)) = some v ∧ ys[j]? = some y ∧ DataW.trod enc P w base spare held n f.type [v] = some y := by
  rcases open_slice ht h with h0 | ⟨a, len, cap, m, n, D, Pl, hcs, hb, hl, hm, hmm, hx, hi⟩
  · exact .inl h0
  · refine .inr ⟨a, len, cap, m, D, Pl, hcs, hb, hl, hm, hmm, by rw [hC] at hx; exact hx, fun i him => ?_⟩
    obtain ⟨cs', hc, ht'⟩ := hi i him
    rw [hC] at hc
    obtain ⟨ys, n', hn', hy, hlen, hyl, hf⟩ := DataW.trod_struct he ht'
    obtain ⟨_, hcl, hat⟩ := World.cells?_some hc
    simp only [Prod.mk.injEq] at hy
    refine ⟨ys, n', hy.1, hy.2, hyl, fun j f hj => ?_⟩
    obtain ⟨ho, hk⟩ := hone_of hone j f hj
    have hjl : j < fs.size := (Array.getElem?_eq_some_iff.1 hj).1
    have hcell := hat j hjl
    have hv : cs'[j]? = some (cs'[j]'(by omega)) := List.getElem?_eq_getElem (by omega)
    have h1 := hf j f hj
    rw [ho, hk] at h1
    have hone' : (cs'.drop j).take 1 = [cs'[j]'(by omega)] := by
      rw [List.drop_eq_getElem_cons (by omega)]
      rfl
    rw [hone'] at h1
    have hys : ys[j]? = some (ys[j]'(by omega)) := List.getElem?_eq_getElem (by omega)
    refine ⟨_, _, ?_, hys, h1.trans hys⟩
    rw [← Go.Deep.add_add, hcell, hv]
/-- A struct of one-cell fields, by value, opened. -/
theorem open_aggN {r : Reach} {b0 : Nat} {t : TypeId} {fs : Array Field} {v : Value} {d : DataW H} {p : List MemPlace} (hs : P.underlying t = some (.struct fs)) (hone : oneCellFields P fs = true) (hC : P.cellsOf t = fs.size)
    (hv : Value.okWide P w r b0 t v) (h : DataW.Trod enc P w base spare held t v d p) :
    ∃ (cs : Array Value) (n : Nat), v = .agg cs ∧ cs.size = fs.size ∧ ∀ (j : Nat) (f : Field), fs[j]? = some f → ∃ (u : Value) (y : DataW H × List MemPlace), cs[j]? = some u ∧ DataW.trod enc P w base spare held n f.type [u] = some y := by
  obtain ⟨cs, rfl, hsz⟩ := okWide_struct hs hv
  obtain ⟨fuel, hf⟩ := h
  obtain ⟨ys, n, hn, hy, hlen, hyl, hf⟩ := DataW.trod_struct hs hf
  rw [hC] at hsz
  refine ⟨cs, n, rfl, hsz, fun j f hj => ?_⟩
  obtain ⟨ho, hk⟩ := hone_of hone j f hj
  have hjl : j < fs.size := (Array.getElem?_eq_some_iff.1 hj).1
  have h1 := hf j f hj
  have ec : (Value.agg cs).cells = cs := rfl
  rw [ho, hk, ec] at h1
  have hone' : (cs.toList.drop j).take 1 = [cs[j]'(by omega)] := by
    rw [List.drop_eq_getElem_cons (by simp; omega)]
    simp
  rw [hone'] at h1
  have hys : ys[j]? = some (ys[j]'(by omega)) := List.getElem?_eq_getElem (by omega)
  exact ⟨_, _, Array.getElem?_eq_getElem (by omega), h1.trans hys⟩
end
section
variable {H : Type} {enc : TypeId × Value → H} {P : Program}
theorem post_of_below {f : Func} {s : ChangeSpec} {apart fresh handsOn again : Bool} {W W' : World} {args : Array Value} {v : Value} {ds gs : List (DataW H)} {before pa pv : List MemPlace}
    (hW : DataW.Whole enc P f.params.toList s.vars apart W args.toList ds gs before)
    (hres : ∀ (b : Nat) (sp : Nat → Bool) (hd : Bool), DataW.TrodAll enc P W' b sp hd f.resultTypes.toList (v.resultList f.resultTypes.size) (s.fn H (ds ++ gs)).results [])
    (hargs : ∀ sp : Nat → Bool, (∀ p ∈ before, sp p.block = true) → DataW.TrodAll enc P W' 0 sp true f.params.toList args.toList (s.fn H (ds ++ gs)).args pa)
    (hvars : ∀ sp : Nat → Bool, (∀ p ∈ before, sp p.block = true) → DataW.TrodVars enc P W' sp s.vars (s.fn H (ds ++ gs)).vars pv)
    (hps : before = pa ++ pv) (hb : Below W.heap.size W W')
    (hok : ∀ (j : Nat) (t : TypeId) (r : Value), f.resultTypes[j]? = some t → (v.resultList f.resultTypes.size)[j]? = some r → Value.okWide P W' .any 0 t r) :
    s.post enc P f apart fresh handsOn again W args v W' := by
  have hlt : ∀ p ∈ before, p.block < W.heap.size := fun p hp => hW.lt p hp
  have hold : ∀ p ∈ before, (fun b => decide (b < W.heap.size)) p.block = true := fun p hp => by simpa using hlt p hp
  refine ⟨ds, gs, before, [], pa, pv, hW, hres _ _ _, hargs _ hold, hvars _ hold, World.keptBut_mono (fun p hp => ⟨hp, ?_⟩) (hb.frame (· ∈ before)), fun _ => ?_⟩
  · rw [hps, List.mem_append] at hp
    exact Or.inr hp
  · obtain ⟨_, _, _, _, _, hz, hn⟩ := hW
    refine ⟨hok, _, _, ([] ++ pa) ++ pv, ⟨[] ++ pa, pv, trodAll_append (hargs _ (fun _ _ => rfl)) (hres _ _ _), hvars _ (fun _ _ => rfl), rfl, ?_, ?_⟩, ?_⟩
    · intro b off hp
      have hin : MemPlace.cell b off ∈ before := by rw [hps]; simpa using hp
      rw [hb.frozen (hlt _ hin)]
      exact hz b off hin
    · intro ha
      have := hn ha
      rw [hps] at this
      simpa using this
    · intro p hp _
      rw [hps]
      simpa using hp
end
section
variable {H : Type} {enc : TypeId × Value → H} {w : World} {spare : Nat → Bool} {held : Bool}
def numOfV : Option Value → Int
  | some (.int _ n) => n
  | _ => 0
def strOfV : Option Value → ByteArray
  | some (.string s) => s
  | _ => ByteArray.empty
theorem spot_none {a : Addr} {v : Value} (h : w.cell? (a.add 0) = some v) : a = ⟨a.block, a.off, none⟩ := by
  obtain ⟨b, o, s⟩ := a
  cases s with
  | none => rfl
  | some s =>
    simp only [Addr.add, if_pos, World.cell?] at h
    split at h <;> simp at h
theorem open_bytes {n : Nat} {v : Value} {y : DataW H × List MemPlace} (h : DataW.trod enc Try.prog w 0 spare held n 23 [v] = some y) :
    ∃ a xs c, v = .slice a xs.length c ∧ Byts w a xs ∧ xs.length ≤ maxLen := by
  rcases open_ints Try.underlying23 Try.underlying5 (by kernel_rfl) h with ⟨h1, _⟩ | ⟨a, len, cap, zs, h1, _, hl, hm, hz, _, hc, hw⟩
  · simp only [List.cons.injEq, and_true] at h1
    exact ⟨none, [], 0, h1, .inl rfl, Nat.zero_le _⟩
  · simp only [List.cons.injEq, and_true] at h1
    have hle : len ≤ zs.length := by rw [hz]; split <;> omega
    have hlen : (zs.take len).length = len := by rw [List.length_take]; omega
    have hlen2 : ((zs.take len).map fun z => UInt8.ofNat z.toNat).length = len := by rw [List.length_map]; exact hlen
    refine ⟨some a, (zs.take len).map fun z => UInt8.ofNat z.toNat, cap, by rw [hlen2]; exact h1, ?_, by rw [hlen2]; omega⟩
    rcases Nat.eq_zero_or_pos len with h0 | h0
    · exact .inl (List.length_eq_zero_iff.1 (by rw [hlen2]; exact h0))
    · have hs := spot_none (hc 0 (by omega))
      refine .inr ⟨a.block, a.off, by rw [← hs], fun i hi => ?_⟩
      rw [hlen2] at hi
      have hcc := hc i (by omega)
      rw [hs, Addr.add_lit] at hcc
      rw [hcc]
      have hzi : i < zs.length := by omega
      have hzm := hw zs[i] (List.getElem_mem hzi)
      simp only [Lit.wf, Bool.and_eq_true, decide_eq_true_eq, IntKind.min, IntKind.max, IntKind.signed, IntKind.bits] at hzm
      congr 2
      unfold bth
      simp only [List.getD_eq_getElem?_getD, List.getElem?_map, List.getElem?_take, if_pos hi, List.getElem?_eq_getElem hzi, Option.map_some, Option.getD_some, UInt8.toNat_ofNat']
      have : zs[i] ≤ 255 := by simpa using hzm.2
      have : 0 ≤ zs[i] := by simpa using hzm.1
      omega
theorem open_u {t : TypeId} {k : IntKind} {n : Nat} {v : Value} {y : DataW H × List MemPlace} (ht : Try.prog.underlying t = some (.int k)) (h : DataW.trod enc Try.prog w 0 spare held n t [v] = some y) : ∃ z, v = .int k z ∧ (Lit.int k z).wf = true := by
  obtain ⟨z, e, _, hw⟩ := DataW.trod_int ht h
  simp only [List.cons.injEq, and_true] at e
  exact ⟨z, e, hw⟩
theorem open_str {t : TypeId} {n : Nat} {v : Value} {y : DataW H × List MemPlace} (ht : Try.prog.underlying t = some .string) (h : DataW.trod enc Try.prog w 0 spare held n t [v] = some y) : ∃ s, v = .string s ∧ s.size ≤ maxLen := by
  obtain ⟨s, e, _, hw⟩ := DataW.trod_string ht h
  simp only [List.cons.injEq, and_true] at e
  exact ⟨s, e, hw⟩
theorem wf_i64 {z : Int} (h : (Lit.int .i64 z).wf = true) : -9223372036854775808 ≤ z ∧ z ≤ 9223372036854775807 := by
  simp only [Lit.wf, Bool.and_eq_true, decide_eq_true_eq, IntKind.min, IntKind.max, IntKind.signed, IntKind.bits] at h
  simpa using h
theorem wf_u64 {z : Int} (h : (Lit.int .u64 z).wf = true) : ∃ n : Nat, z = (n : Int) ∧ n < 18446744073709551616 := by
  simp only [Lit.wf, Bool.and_eq_true, decide_eq_true_eq, IntKind.min, IntKind.max, IntKind.signed, IntKind.bits] at h
  have h0 : 0 ≤ z := by simpa using h.1
  have h1 : z ≤ 18446744073709551615 := by simpa using h.2
  exact ⟨z.toNat, by omega, by omega⟩
theorem wf_u32 {z : Int} (h : (Lit.int .u32 z).wf = true) : ∃ n : Nat, z = (n : Int) ∧ n < 4294967296 := by
  simp only [Lit.wf, Bool.and_eq_true, decide_eq_true_eq, IntKind.min, IntKind.max, IntKind.signed, IntKind.bits] at h
  have h0 : 0 ≤ z := by simpa using h.1
  have h1 : z ≤ 4294967295 := by simpa using h.2
  exact ⟨z.toNat, by omega, by omega⟩
theorem wf_u16 {z : Int} (h : (Lit.int .u16 z).wf = true) : ∃ n : Nat, z = (n : Int) ∧ n < 65536 := by
  simp only [Lit.wf, Bool.and_eq_true, decide_eq_true_eq, IntKind.min, IntKind.max, IntKind.signed, IntKind.bits] at h
  have h0 : 0 ≤ z := by simpa using h.1
  have h1 : z ≤ 65535 := by simpa using h.2
  exact ⟨z.toNat, by omega, by omega⟩
theorem wf_u8 {z : Int} (h : (Lit.int .u8 z).wf = true) : ∃ n : Nat, z = (n : Int) ∧ n < 256 := by
  simp only [Lit.wf, Bool.and_eq_true, decide_eq_true_eq, IntKind.min, IntKind.max, IntKind.signed, IntKind.bits] at h
  have h0 : 0 ≤ z := by simpa using h.1
  have h1 : z ≤ 255 := by simpa using h.2
  exact ⟨z.toNat, by omega, by omega⟩
theorem open_txts {n : Nat} {v : Value} {y : DataW H × List MemPlace} (h : DataW.trod enc Try.prog w 0 spare held n 84 [v] = some y) : ∃ a xs c, v = .slice a (List.length xs) c ∧ Txts w a xs ∧ xs.length ≤ maxLen := by
  rcases open_strings Try.underlying84 Try.underlying9 (by kernel_rfl) h with ⟨h1, _⟩ | ⟨a, len, cap, zs, h1, _, hl, hm, hz, _, hc, hw⟩
  · simp only [List.cons.injEq, and_true] at h1
    exact ⟨none, [], 0, h1, ⟨.inl rfl, fun i hi => by simp at hi⟩, Nat.zero_le _⟩
  · simp only [List.cons.injEq, and_true] at h1
    have hle : len ≤ zs.length := by rw [hz]; split <;> omega
    have hlen : (zs.take len).length = len := by rw [List.length_take]; omega
    have hst : ∀ i, i < len → sth (zs.take len) i = zs.getD i ByteArray.empty := fun i hi => by simp [sth, List.getD_eq_getElem?_getD, List.getElem?_take, hi]
    refine ⟨some a, zs.take len, cap, by rw [hlen]; exact h1, ⟨?_, fun i hi => ?_⟩, by rw [hlen]; omega⟩
    · rcases Nat.eq_zero_or_pos len with h0 | h0
      · exact .inl (List.length_eq_zero_iff.1 (by rw [hlen]; exact h0))
      · have hs := spot_none (hc 0 (by omega))
        refine .inr ⟨a.block, a.off, by rw [← hs], fun i hi => ?_⟩
        rw [hlen] at hi
        have hcc := hc i (by omega)
        rw [hs, Addr.add_lit] at hcc
        rw [hcc, hst i hi]
    · rw [hlen] at hi
      rw [hst i hi]
      have hzi : i < zs.length := by omega
      have := hw zs[i] (List.getElem_mem hzi)
      simpa [List.getD_eq_getElem?_getD, hzi] using this
/-- The types of a call's fields. -/
def opT : List Nat := [3, 9, 9, 9, 9, 9, 3, 3, 3]
theorem op_field (j : Nat) (hj : j < 9) : ∃ f, (match Try.prog.underlying 47 with | some (.struct fs) => fs[j]? | _ => none) = some f ∧ f.type = opT.getD j 0 := by
  rw [Try.underlying47]
  match j, hj with
  | 0, _ => exact ⟨_, rfl, rfl⟩
  | 1, _ => exact ⟨_, rfl, rfl⟩
  | 2, _ => exact ⟨_, rfl, rfl⟩
  | 3, _ => exact ⟨_, rfl, rfl⟩
  | 4, _ => exact ⟨_, rfl, rfl⟩
  | 5, _ => exact ⟨_, rfl, rfl⟩
  | 6, _ => exact ⟨_, rfl, rfl⟩
  | 7, _ => exact ⟨_, rfl, rfl⟩
  | 8, _ => exact ⟨_, rfl, rfl⟩
def opOfV (g : Nat → Option Value) : Op := ⟨numOfV (g 0), strOfV (g 1), strOfV (g 2), strOfV (g 3), strOfV (g 4), strOfV (g 5), numOfV (g 6), numOfV (g 7), numOfV (g 8)⟩
/-- A call out of cells that read as one. -/
theorem op_of {g : Nat → Option Value} (h : ∀ j, j < 9 → ∃ u n y, g j = some u ∧ DataW.trod enc Try.prog w 0 spare held n (opT.getD j 0) [u] = some y) :
    (g 0 = some (.int .i64 (opOfV g).kind) ∧ g 1 = some (.string (opOfV g).name) ∧ g 2 = some (.string (opOfV g).pass) ∧ g 3 = some (.string (opOfV g).label) ∧ g 4 = some (.string (opOfV g).other) ∧ g 5 = some (.string (opOfV g).text) ∧
      g 6 = some (.int .i64 (opOfV g).day) ∧ g 7 = some (.int .i64 (opOfV g).num) ∧ g 8 = some (.int .i64 (opOfV g).ver)) ∧ OpOk (opOfV g) := by
  have hi : ∀ j, j < 9 → opT.getD j 0 = 3 → g j = some (.int .i64 (numOfV (g j))) ∧ -9223372036854775808 ≤ numOfV (g j) ∧ numOfV (g j) ≤ 9223372036854775807 := fun j hj ht => by
    obtain ⟨u, n, y, h1, h2⟩ := h j hj
    rw [ht] at h2
    obtain ⟨z, rfl, hw⟩ := open_u Try.underlying3 h2
    rw [h1]; exact ⟨rfl, wf_i64 hw⟩
  have hs : ∀ j, j < 9 → opT.getD j 0 = 9 → g j = some (.string (strOfV (g j))) ∧ (strOfV (g j)).size ≤ maxLen := fun j hj ht => by
    obtain ⟨u, n, y, h1, h2⟩ := h j hj
    rw [ht] at h2
    obtain ⟨z, rfl, hw⟩ := open_str Try.underlying9 h2
    rw [h1]; exact ⟨rfl, hw⟩
  have i0 := hi 0 (by omega) rfl
  have i6 := hi 6 (by omega) rfl
  have i7 := hi 7 (by omega) rfl
  have i8 := hi 8 (by omega) rfl
  have s1 := hs 1 (by omega) rfl
  have s2 := hs 2 (by omega) rfl
  have s3 := hs 3 (by omega) rfl
  have s4 := hs 4 (by omega) rfl
  have s5 := hs 5 (by omega) rfl
  exact ⟨⟨i0.1, s1.1, s2.1, s3.1, s4.1, s5.1, i6.1, i7.1, i8.1⟩, ⟨i0.2.1, i0.2.2, s1.2, s2.2, s3.2, s4.2, s5.2, i6.2.1, i6.2.2, i7.2.1, i7.2.2, i8.2.1, i8.2.2⟩⟩
set_option maxRecDepth 100000 in
theorem open_op {b0 : Nat} {v : Value} {d : DataW H} {p : List MemPlace} (hv : Value.okWide Try.prog w .any b0 47 v) (h : DataW.Trod enc Try.prog w 0 spare held 47 v d p) : ∃ x, v = opval x ∧ OpOk x := by
  obtain ⟨cs, n, rfl, hsz, hf⟩ := open_aggN Try.underlying47 (by kernel_rfl) (by kernel_rfl) hv h
  obtain ⟨⟨g0, g1, g2, g3, g4, g5, g6, g7, g8⟩, hok⟩ := op_of (enc := enc) (w := w) (spare := spare) (held := held) (g := fun j => cs[j]?) fun j hj => by
    obtain ⟨f, hfj, hty⟩ := op_field j hj
    rw [Try.underlying47] at hfj
    obtain ⟨u, y, hu, hy⟩ := hf j f hfj
    rw [hty] at hy
    exact ⟨u, n, y, hu, hy⟩
  refine ⟨_, ?_, hok⟩
  congr 1
  have hsz9 : cs.size = 9 := hsz
  apply Array.ext
  · rw [hsz9]; rfl
  · intro i h1 h2
    rw [hsz9] at h1
    have e : cs[i]? = (opcells (opOfV fun j => cs[j]?))[i]? := by
      match i, h1 with
      | 0, _ => exact g0
      | 1, _ => exact g1
      | 2, _ => exact g2
      | 3, _ => exact g3
      | 4, _ => exact g4
      | 5, _ => exact g5
      | 6, _ => exact g6
      | 7, _ => exact g7
      | 8, _ => exact g8
    rw [Array.getElem?_eq_getElem (by omega), Array.getElem?_eq_getElem h2] at e
    exact Option.some.inj e
set_option maxRecDepth 100000 in
theorem open_ops {n : Nat} {v : Value} {y : DataW H × List MemPlace} (h : DataW.trod enc Try.prog w 0 spare held n 34 [v] = some y) : ∃ a xs c, v = .slice a (List.length xs) c ∧ Ops w a xs ∧ xs.length ≤ maxLen := by
  rcases open_slice_fields Try.underlying34 Try.underlying47 (by kernel_rfl) (by kernel_rfl) h with ⟨h1, _⟩ | ⟨a, len, cap, m, D, Pl, h1, _, hl, hm, hmm, _, hi⟩
  · simp only [List.cons.injEq, and_true] at h1
    exact ⟨none, [], 0, h1, ⟨.inl rfl, fun i hi => by simp at hi⟩, Nat.zero_le _⟩
  · simp only [List.cons.injEq, and_true] at h1
    have hle : len ≤ m := by rw [hmm]; split <;> omega
    have key := fun i (hil : i < len) => op_of (enc := enc) (w := w) (spare := spare) (held := held) (g := fun j => w.cell? (a.add (i * 9 + j))) fun j hj => by
      obtain ⟨ys, n', _, _, _, hg⟩ := hi i (by omega)
      obtain ⟨f, hfj, hty⟩ := op_field j hj
      rw [Try.underlying47] at hfj
      obtain ⟨u, y, hc, _, ht⟩ := hg j f hfj
      rw [hty] at ht
      exact ⟨u, n', y, hc, ht⟩
    let xs : List Op := (List.range len).map fun i => opOfV fun j => w.cell? (a.add (i * 9 + j))
    have hlen : xs.length = len := by simp [xs]
    have hoth : ∀ i, i < len → oth xs i = opOfV fun j => w.cell? (a.add (i * 9 + j)) := fun i h => by simp [oth, xs, h]
    refine ⟨some a, xs, cap, by rw [hlen]; exact h1, ⟨?_, fun i hi => ?_⟩, by rw [hlen]; omega⟩
    · rcases Nat.eq_zero_or_pos len with h0 | h0
      · exact .inl (List.length_eq_zero_iff.1 (by rw [hlen]; exact h0))
      · have hs := spot_none (key 0 h0).1.1
        refine .inr ⟨a.block, a.off, by rw [← hs], fun i hil => ?_⟩
        rw [hlen] at hil
        rw [hoth i hil]
        obtain ⟨⟨g0, g1, g2, g3, g4, g5, g6, g7, g8⟩, -⟩ := key i hil
        have e : ∀ j, a.add (i * 9 + j) = ⟨a.block, a.off + i * 9 + j, none⟩ := fun j => by rw [hs, Addr.add_lit, Nat.add_assoc]
        have e0 : a.add (i * 9 + 0) = ⟨a.block, a.off + i * 9, none⟩ := e 0
        generalize opOfV (fun j => w.cell? (a.add (i * 9 + j))) = x at *
        simp only [e0] at g0; simp only [e] at g1 g2 g3 g4 g5 g6 g7 g8
        exact ⟨g0, g1, g2, g3, g4, g5, g6, g7, g8⟩
    · rw [hlen] at hi
      rw [hoth i hi]
      exact (key i hi).2
end
theorem trodAll_stays {H : Type} {enc : TypeId × Value → H} {P : Program} {W W' : World} {sp' : Nat → Bool} (hl : laidOutB P = true) : ∀ {ts : List TypeId} {vs : List Value} {ds : List (DataW H)} {ps : List MemPlace},
    (ts.all fun t => P.readableRec t && decide (t < P.types.size)) = true → DataW.TrodAll enc P W 0 (fun _ => true) true ts vs ds ps → (∀ p ∈ ps, W.sameAt W' p) → (∀ p ∈ ps, sp' p.block = true) → DataW.TrodAll enc P W' 0 sp' true ts vs ds ps
  | [], [], [], _, _, h, _, _ => h
  | t :: ts, v :: vs, d :: ds, ps, hr, ⟨p, q, h, hs, e⟩, hsame, hsp => by
    simp only [List.all_cons, Bool.and_eq_true, decide_eq_true_eq] at hr
    subst e
    exact ⟨p, q, Trod_stays hl hr.1.1 hr.1.2 h (fun x hx => hsame x (List.mem_append_left _ hx)) (fun x hx => hsp x (List.mem_append_left _ hx)),
      trodAll_stays hl hr.2 hs (fun x hx => hsame x (List.mem_append_right _ hx)) (fun x hx => hsp x (List.mem_append_right _ hx)), rfl⟩
theorem Try.own : ownKnob Try.prog.godebug = none := by kernel_rfl
theorem Try.laidOut : laidOutB Try.prog = true := by kernel_rfl
set_option maxRecDepth 100000 in
/-- A law's row, shut: it answered true, and all that was there stands. -/
theorem law_post {H : Type} {enc : TypeId × Value → H} {f : Func} {s : ChangeSpec} {W W' : World} {args : Array Value} {ds : List (DataW H)} {before : List MemPlace} {e : Ending}
    (hW : DataW.Whole enc Try.prog f.params.toList s.vars false W args.toList ds [] before) (hA : DataW.TrodAll enc Try.prog W 0 (fun _ => true) true f.params.toList args.toList ds before)
    (hr : f.resultTypes = #[4]) (hv : s.vars = []) (hs : (s.fn H (ds ++ [])).results = [.lit (.bool true)]) (hsa : (s.fn H (ds ++ [])).args = ds) (hsv : (s.fn H (ds ++ [])).vars = [])
    (hp : (f.params.toList.all fun t => Try.prog.readableRec t && decide (t < Try.prog.types.size)) = true) (he : Ret (.bool true) W e W') :
    ∃ v, e = .returned v ∧ s.post enc Try.prog f false true false false W args v W' := by
  obtain ⟨he, hx⟩ := he
  have hx' : Below W.heap.size W W' := hx
  refine ⟨_, he, post_of_below (pa := before) (pv := []) hW (fun _ _ _ => ?_) (fun sp hsp => ?_) (fun sp hsp => ?_) (by simp) hx' ?_⟩
  · rw [hr, hs]; exact trodAll_mk1 (shut_bool Try.underlying4 true)
  · rw [hsa]; exact trodAll_stays Try.laidOut hp hA (fun p hp => hx'.same (hA.lt p hp)) hsp
  · rw [hv, hsv]; exact rfl
  · exact ok_one (v := .bool true) (t := 4) hr rfl (okWide_bool_mk Try.underlying4 true)
end Go.Proofs.Ytlahejakcgoheaa
